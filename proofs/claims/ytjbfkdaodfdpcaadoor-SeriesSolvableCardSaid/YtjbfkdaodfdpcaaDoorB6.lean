/-
  Texts of this proof, one behind the other: what each says stands at its head. Conditions: none.
-/
import Derived.Test.YtjbfkdaodfdpcaaDoorB5
import Derived.Test.YtjbfkdaodfdpcaaDoorB3
import Derived.Shelf.SlSortCmp.Whole1
import Derived.Shelf.Sort.Plain
import Derived.Shelf.Slices.In.SortNone
import Derived.Test.YtjbfkdaodfdpcaaDoorProg
import Derived.Shelf.Lays
import Derived.Test.YtjbfkdaodfdpcaaDoorB4
import Derived.Test.YtjbfkdaodfdpcaaDoorRows
import Derived.ProofKit
import Derived.LaidMore
import Derived.OpenShut
import Derived.Stop.Joined

/-
  Plain: chains of subgroups whose steps are as small as can be (Jordan and Hoelder). Conditions: none.
-/
set_option linter.all false
namespace Go.Proofs.YtjbfkdaodfdpcaaDoor

section
variable {n e : Nat} {f : Nat → Nat → Nat} {p q a b : Nat → Bool}
theorem Mxn.nz (G : Grp n f e) (h : Mxn n f e p q) {c : Nat} (hc : c < n) (pc : p c = true) : nzr n f e q c = true :=
  G.nzr_of h.sub hc fun y hy hh => by
    obtain ⟨x, x1, x2, rfl⟩ := shf_iff.1 hh
    exact h.nml c x hc x1 pc x2
theorem Mxn.congr_l {p' : Nat → Bool} (h : Mxn n f e p q) (hp : ∀ x, x < n → p' x = p x) : Mxn n f e p' q where
  sub := h.sub
  le x hx hq := by rw [hp x hx]; exact h.le x hx hq
  nml c x hc hx pc := h.nml c x hc hx (by rw [← hp c hc]; exact pc)
  ne := by obtain ⟨x, x1, x2, x3⟩ := h.ne; exact ⟨x, x1, by rw [hp x x1]; exact x2, x3⟩
  mx x hx px qx t ht h1 h2 y hy py := h.mx x hx (by rwa [← hp x hx]) qx t ht h1 (fun c hc pc => h2 c hc (by rwa [hp c hc])) y hy (by rwa [← hp y hy])
theorem Mxn.congr_r {q' : Nat → Bool} (G : Grp n f e) (h : Mxn n f e p q) (hs : Sub n f e q') (hq : ∀ x, x < n → q' x = q x) : Mxn n f e p q' where
  sub := hs
  le x hx hh := h.le x hx (by rwa [← hq x hx])
  nml c x hc hx pc hh := by
    rw [hq _ (G.cjr_lt hx hc)]
    exact h.nml c x hc hx pc (by rwa [← hq x hx])
  ne := by obtain ⟨x, x1, x2, x3⟩ := h.ne; exact ⟨x, x1, x2, by rw [hq x x1]; exact x3⟩
  mx x hx px qx t ht h1 h2 y hy py := h.mx x hx px (by rwa [← hq x hx]) t ht (fun y hy hh => h1 y hy (by rwa [hq y hy])) h2 y hy py

theorem Mxn.top (G : Grp n f e) (ha : Mxn n f e p a) (hb : Mxn n f e p b) (hne : ¬ ∀ x, x < n → a x = b x) {y : Nat} (hy : y < n) (py : p y = true) : pr2 n f e a b y = true := by
  by_cases hsub : ∀ x, x < n → b x = true → a x = true
  · exfalso
    have h1 : ∃ x, x < n ∧ a x = true ∧ b x = false := by
      refine Classical.byContradiction fun hh => hne fun x hx => ?_
      cases hbx : b x with
      | true => exact hsub x hx hbx
      | false =>
        cases hax : a x with
        | false => rfl
        | true => exact absurd ⟨x, hx, hax, hbx⟩ hh
    obtain ⟨x, x1, x2, x3⟩ := h1
    obtain ⟨z, z1, z2, z3⟩ := ha.ne
    have := hb.mx x x1 (ha.le x x1 x2) x3 a ha.sub hsub (fun c hc pc => ha.nml c x hc x1 pc x2) z z1 z2
    rw [this] at z3; cases z3
  · have h1 : ∃ x, x < n ∧ b x = true ∧ a x = false := by
      refine Classical.byContradiction fun hh => hsub fun x hx hbx => ?_
      cases hax : a x with
      | true => rfl
      | false => exact absurd ⟨x, hx, hbx, hax⟩ hh
    obtain ⟨x, x1, x2, x3⟩ := h1
    refine ha.mx x x1 (hb.le x x1 x2) x3 _ (G.nz_prod ha.sub hb.sub fun c hc bc => ha.nz G hc (hb.le c hc bc)) (fun z hz az => ?_) (fun c hc pc => ?_) y hy py
    · have := G.pr2_mk (p := a) (q := b) hz G.el az hb.sub.one; rwa [G.one_r z hz] at this
    · have hl := G.cjr_lt x1 hc
      have := G.pr2_mk (p := a) (q := b) G.el hl ha.sub.one (hb.nml c x hc x1 pc x2); rwa [G.one_l _ hl] at this

theorem Mxn.count (G : Grp n f e) (hp : Sub n f e p) (ha : Mxn n f e p a) (hb : Mxn n f e p b) (hne : ¬ ∀ x, x < n → a x = b x) : (mem n p).length * (mem n fun x => a x && b x).length = (mem n a).length * (mem n b).length := by
  rw [← G.prod_count ha.sub hb.sub]
  congr 2
  refine mem_congr fun y hy => ?_
  rw [Bool.eq_iff_iff]
  refine ⟨fun py => ha.top G hb hne hy py, fun h => ?_⟩
  obtain ⟨u, v, u1, v1, u2, v2, rfl⟩ := G.pr2_un hy h
  exact hp.mul _ _ u1 v1 (ha.le u u1 u2) (hb.le v v1 v2)

theorem Mxn.meet (G : Grp n f e) (hp : Sub n f e p) (ha : Mxn n f e p a) (hb : Mxn n f e p b) (hne : ¬ ∀ x, x < n → a x = b x) : Mxn n f e a fun x => a x && b x where
  sub := ha.sub.and hb.sub
  le x hx h := by rw [Bool.and_eq_true] at h; exact h.1
  nml c x hc hx ac h := by
    rw [Bool.and_eq_true] at h ⊢
    exact ⟨ha.nml c x hc hx (ha.le c hc ac) h.1, hb.nml c x hc hx (ha.le c hc ac) h.2⟩
  ne := by
    refine Classical.byContradiction fun hh => ?_
    have hab : ∀ x, x < n → a x = true → b x = true := fun x hx ax => by
      cases hbx : b x with
      | true => rfl
      | false => exact absurd ⟨x, hx, ax, by rw [hbx, Bool.and_false]⟩ hh
    obtain ⟨z, z1, z2, z3⟩ := hb.ne
    have h1 := ha.top G hb hne z1 z2
    obtain ⟨u, v, u1, v1, u2, v2, rfl⟩ := G.pr2_un z1 h1
    rw [hb.sub.mul _ _ u1 v1 (hab u u1 u2) v2] at z3
    cases z3
  mx x hx ax hdx t ht h1 h2 y hy ay := by
    have bx : b x = false := by rw [ax, Bool.true_and] at hdx; exact hdx
    have hs := ht.and ha.sub
    have hpr : Sub n f e (pr2 n f e b fun x => t x && a x) := G.nz_prod hb.sub hs fun c hc tc => by
      rw [Bool.and_eq_true] at tc
      exact hb.nz G hc (ha.le c hc tc.2)
    have hall := hb.mx x hx (ha.le x hx ax) bx _ hpr (fun z hz bz => by
      have := G.pr2_mk (p := b) (q := fun x => t x && a x) hz G.el bz hs.one; rwa [G.one_r z hz] at this) (fun c hc pc => ?_) y hy (ha.le y hy ay)
    · obtain ⟨w, v, w1, v1, w2, v2, rfl⟩ := G.pr2_un hy hall
      rw [Bool.and_eq_true] at v2
      have iv := G.iv_lt v1
      have h3 : a w = true := by
        have := ha.sub.mul _ _ hy iv ay (ha.sub.inv v v1 v2.2)
        rwa [G.assoc _ _ _ w1 v1 iv, G.mul_iv v1, G.one_r w w1] at this
      exact ht.mul _ _ w1 v1 (h1 w w1 (by rw [h3, w2]; rfl)) v2.1
    · obtain ⟨u, v, u1, v1, u2, v2, rfl⟩ := G.pr2_un hc (ha.top G hb hne hc pc)
      have hyl := G.cjr_lt hx u1
      have ty := h2 u u1 u2
      have ayy := ha.nml u x u1 hx (ha.le u u1 u2) ax
      have iyv := G.iv_lt v1
      have iyy := G.iv_lt hyl
      have hcv := G.cjr_lt v1 iyy
      have e1 : cjr n f e x (f u v) = f (f (iv n f e v) (cjr n f e v (iv n f e (cjr n f e x u)))) (cjr n f e x u) := by
        rw [← G.cjr_cjr hx u1 v1]
        show f (f (iv n f e v) (cjr n f e x u)) v = _
        have : cjr n f e v (iv n f e (cjr n f e x u)) = f (f (cjr n f e x u) v) (iv n f e (cjr n f e x u)) := by
          show f (f (iv n f e (iv n f e (cjr n f e x u))) v) (iv n f e (cjr n f e x u)) = _
          rw [G.iv_iv hyl]
        rw [this, G.assoc _ _ _ iyv (G.cl _ _ (G.cl _ _ hyl v1) iyy) hyl, G.assoc _ _ _ (G.cl _ _ hyl v1) iyy hyl, G.iv_mul hyl, G.one_r _ (G.cl _ _ hyl v1), G.assoc _ _ _ iyv hyl v1]
      rw [e1]
      refine G.pr2_mk (G.cl _ _ iyv hcv) hyl (hb.sub.mul _ _ iyv hcv (hb.sub.inv v v1 v2) ?_) (by rw [ty, ayy]; rfl)
      exact hb.nml _ v iyy v1 (hp.inv _ hyl (ha.le _ hyl ayy)) v2

/-- A chain from a subgroup down to the one. -/
def Chn (n : Nat) (f : Nat → Nat → Nat) (e : Nat) : (Nat → Bool) → List (Nat → Bool) → Prop
  | p, [] => ∀ x, x < n → p x = true → x = e
  | p, q :: l => Mxn n f e p q ∧ Chn n f e q l
def idx (n : Nat) : (Nat → Bool) → List (Nat → Bool) → List Nat
  | _, [] => []
  | p, q :: l => (mem n p).length / (mem n q).length :: idx n q l
theorem Chn.congr {p' : Nat → Bool} (hp : ∀ x, x < n → p' x = p x) : ∀ {l : List (Nat → Bool)}, Chn n f e p l → Chn n f e p' l ∧ idx n p' l = idx n p l
  | [], h => ⟨fun x hx hh => h x hx (by rwa [← hp x hx]), rfl⟩
  | q :: l, h => ⟨⟨h.1.congr_l hp, h.2⟩, by show _ / _ :: _ = _ / _ :: _; rw [mem_congr hp]⟩
theorem Mxn.le_len (G : Grp n f e) (hp : Sub n f e p) (h : Mxn n f e p q) : (mem n p).length / (mem n q).length * (mem n q).length = (mem n p).length :=
  Nat.div_mul_cancel (h.sub.dvd G fun x y hx hy h1 h2 => hp.mul _ _ hx hy h1 (h.le y hy h2))
/-- A step that is as small as can be. -/
theorem mxn_ex (G : Grp n f e) (hp : Sub n f e p) (hne : ∃ x, x < n ∧ p x = true ∧ x ≠ e) : ∃ q, Mxn n f e p q := by
  let S : (Nat → Bool) → Prop := fun q => Sub n f e q ∧ (∀ x, x < n → q x = true → p x = true) ∧ (∀ c x, c < n → x < n → p c = true → q x = true → q (cjr n f e x c) = true) ∧ ∃ x, x < n ∧ p x = true ∧ q x = false
  have h0 : S (onp e) := by
    obtain ⟨x, x1, x2, x3⟩ := hne
    refine ⟨G.onp_sub, fun x hx h => by rw [onp_iff.1 h]; exact hp.one, fun c x hc hx _ h => by rw [onp_iff.1 h, G.cjr_one hc]; exact onp_iff.2 rfl, x, x1, x2, ?_⟩
    cases hh : onp e x with
    | false => rfl
    | true => exact absurd (onp_iff.1 hh) x3
  -- the greatest of them
  have hbound : ∀ q, S q → (mem n q).length ≤ n := fun q _ => Nat.le_trans (List.length_filter_le _ _) (by rw [List.length_range]; exact Nat.le_refl _)
  have hmax : ∃ q, S q ∧ ∀ t, S t → (mem n t).length ≤ (mem n q).length := by
    have key : ∀ k, (∃ q, S q ∧ n - (mem n q).length ≤ k) → ∃ q, S q ∧ ∀ t, S t → (mem n t).length ≤ (mem n q).length := by
      intro k
      induction k with
      | zero => rintro ⟨q, hq, hk⟩; exact ⟨q, hq, fun t ht => by have := hbound t ht; have := hbound q hq; omega⟩
      | succ k ih =>
        rintro ⟨q, hq, hk⟩
        by_cases hb : ∃ t, S t ∧ (mem n q).length < (mem n t).length
        · obtain ⟨t, ht, hlt⟩ := hb
          exact ih ⟨t, ht, by have := hbound t ht; omega⟩
        · exact ⟨q, hq, fun t ht => Nat.le_of_not_lt fun hlt => hb ⟨t, ht, hlt⟩⟩
    exact key _ ⟨_, h0, Nat.le_refl _⟩
  obtain ⟨q, ⟨q1, q2, q3, q4⟩, hm⟩ := hmax
  refine ⟨q, q1, q2, q3, q4, fun x hx px qx t ht h1 h2 => ?_⟩
  -- what q and the conjugated x make
  let P : Nat → Bool := fun z => q z || decide (∃ c, c < n ∧ p c = true ∧ cjr n f e x c = z)
  obtain ⟨u, hu⟩ := gen_ex n f e P
  have us := gen_sub G hu
  have hP : ∀ z, z < n → P z = true → q z = true ∨ ∃ c, c < n ∧ p c = true ∧ cjr n f e x c = z := fun z hz h => by
    rwa [Bool.or_eq_true, decide_eq_true_eq] at h
  have hqu : ∀ z, z < n → q z = true → u z = true := fun z hz h => (hu z hz).2 (Gen.mem G hz (by show (_ || _) = true; rw [h]; rfl))
  have hxu : u x = true := (hu x hx).2 (Gen.mem G hx (by
    show (_ || _) = true
    rw [Bool.or_eq_true, decide_eq_true_eq]
    exact .inr ⟨e, G.el, hp.one, G.cjr_e hx⟩))
  have hup : ∀ z, z < n → u z = true → p z = true := fun z hz h => ((hu z hz).1 h).sub G hp fun w hw h => by
    rcases hP w hw h with h | ⟨c, c1, c2, rfl⟩
    · exact q2 w hw h
    · exact cjr_in G hp hx c1 px c2
  have hun : ∀ c z, c < n → z < n → p c = true → u z = true → u (cjr n f e z c) = true := fun c z hc hz pc h => by
    have key : ∀ w, Gen n f e P w → u (cjr n f e w c) = true := fun w hw => by
      refine Gen.least (H := fun w => u (cjr n f e w c) = true) (by rw [G.cjr_one hc]; exact us.one) (fun w v gw hv pv hw => ?_) hw
      rw [G.cjr_hom (gw.lt G) hv hc]
      refine us.mul _ _ (G.cjr_lt (gw.lt G) hc) (G.cjr_lt hv hc) hw ?_
      rcases hP v hv pv with h | ⟨d, d1, d2, rfl⟩
      · exact hqu _ (G.cjr_lt hv hc) (q3 c v hc hv pc h)
      · have hl := G.cjr_lt hv hc
        refine (hu _ hl).2 (Gen.mem G hl ?_)
        show (_ || _) = true
        rw [Bool.or_eq_true, decide_eq_true_eq]
        exact .inr ⟨f d c, G.cl _ _ d1 hc, hp.mul _ _ d1 hc d2 pc, (G.cjr_cjr hx d1 hc).symm⟩
    exact key z ((hu z hz).1 h)
  have hlt : (mem n q).length < (mem n u).length := mem_lt hqu fun hh => by rw [hh x hx, hxu] at qx; cases qx
  have hall : ∀ y, y < n → p y = true → u y = true := fun y hy py => by
    cases huy : u y with
    | true => rfl
    | false => exact absurd (hm u ⟨us, hup, hun, y, hy, py, huy⟩) (by omega)
  exact fun y hy py => ((hu y hy).1 (hall y hy py)).sub G ht fun w hw h => by
    rcases hP w hw h with h | ⟨c, c1, c2, rfl⟩
    · exact h1 w hw h
    · exact h2 c c1 c2

theorem chn_ex (G : Grp n f e) : ∀ (k : Nat) (p : Nat → Bool), Sub n f e p → (mem n p).length ≤ k → ∃ l, Chn n f e p l := by
  intro k
  induction k with
  | zero => intro p hp hk; have := hp.pos G.el; omega
  | succ k ih =>
    intro p hp hk
    by_cases h : ∃ x, x < n ∧ p x = true ∧ x ≠ e
    · obtain ⟨q, hq⟩ := mxn_ex G hp h
      obtain ⟨l, hl⟩ := ih q hq.sub (by have := hq.lt; omega)
      exact ⟨q :: l, hq, hl⟩
    · exact ⟨[], fun x hx px => Classical.byContradiction fun hh => h ⟨x, hx, px, hh⟩⟩

/-- JORDAN AND HOELDER. -/
theorem jordan (G : Grp n f e) : ∀ (k : Nat) (p : Nat → Bool) (l l' : List (Nat → Bool)), Sub n f e p → (mem n p).length ≤ k → Chn n f e p l → Chn n f e p l' → (idx n p l).Perm (idx n p l') := by
  intro k
  induction k with
  | zero => intro p _ _ hp hk; have := hp.pos G.el; omega
  | succ k ih =>
    intro p l l' hp hk h h'
    have hno : ∀ q r, Chn n f e p [] → Chn n f e p (q :: r) → False := fun q r h1 h2 => by
      obtain ⟨x, x1, x2, x3⟩ := h2.1.ne
      rw [h1 x x1 x2, h2.1.sub.one] at x3; cases x3
    cases l with
    | nil =>
      cases l' with
      | nil => exact List.Perm.refl _
      | cons b l' => exact absurd h' (hno b l' h)
    | cons a l =>
      cases l' with
      | nil => exact absurd h (hno a l h')
      | cons b l' =>
        obtain ⟨ha, hl⟩ := h
        obtain ⟨hb, hl'⟩ := h'
        have ka := ha.lt
        have kb := hb.lt
        show (_ / _ :: idx n a l).Perm (_ / _ :: idx n b l')
        by_cases hab : ∀ x, x < n → a x = b x
        · obtain ⟨h1, h2⟩ := Chn.congr hab hl'
          rw [mem_congr hab, ← h2]
          exact (ih a l l' ha.sub (by omega) hl h1).cons _
        · have hba : ¬ ∀ x, x < n → b x = a x := fun hh => hab fun x hx => (hh x hx).symm
          have md := ha.meet G hp hb hab
          have me := (hb.meet G hp ha hba).congr_r G md.sub fun x _ => Bool.and_comm _ _
          obtain ⟨ld, hd⟩ := chn_ex G _ _ md.sub (Nat.le_refl _)
          have h1 := ih a l ((fun x => a x && b x) :: ld) ha.sub (by omega) hl ⟨md, hd⟩
          have h2 := ih b l' ((fun x => a x && b x) :: ld) hb.sub (by omega) hl' ⟨me, hd⟩
          have hc := ha.count G hp hb hab
          have pd := md.sub.pos G.el
          have pa := ha.sub.pos G.el
          have pb := hb.sub.pos G.el
          have e1 := ha.le_len G hp
          have e2 := hb.le_len G hp
          have e3 := md.le_len G ha.sub
          have e4 := me.le_len G hb.sub
          have g1 : (mem n p).length / (mem n a).length = (mem n b).length / (mem n fun x => a x && b x).length := by
            refine Nat.eq_of_mul_eq_mul_right (Nat.mul_pos pa pd) ?_
            calc _ = (mem n p).length * (mem n fun x => a x && b x).length := by rw [← Nat.mul_assoc, e1]
              _ = (mem n a).length * (mem n b).length := hc
              _ = _ := by rw [Nat.mul_comm (mem n a).length (mem n fun x => a x && b x).length, ← Nat.mul_assoc, e4, Nat.mul_comm]
          have g2 : (mem n p).length / (mem n b).length = (mem n a).length / (mem n fun x => a x && b x).length := by
            refine Nat.eq_of_mul_eq_mul_right (Nat.mul_pos pb pd) ?_
            calc _ = (mem n p).length * (mem n fun x => a x && b x).length := by rw [← Nat.mul_assoc, e2]
              _ = (mem n a).length * (mem n b).length := hc
              _ = _ := by rw [Nat.mul_comm (mem n b).length (mem n fun x => a x && b x).length, ← Nat.mul_assoc, e3]
          refine (h1.cons _).trans (List.Perm.trans ?_ (h2.cons _).symm)
          show (_ :: _ :: _).Perm (_ :: _ :: _)
          rw [g1, g2]
          exact List.Perm.swap _ _ _
end
end Go.Proofs.YtjbfkdaodfdpcaaDoor

/-
  Plain: homomorphisms of a subgroup onto a group; chains go there and back; steps in which things commute. Conditions: none.
-/
set_option linter.all false
namespace Go.Proofs.YtjbfkdaodfdpcaaDoor

/-- A homomorphism of a subgroup onto a group. -/
structure Hm (n : Nat) (f : Nat → Nat → Nat) (e : Nat) (p : Nat → Bool) (k : Nat) (g : Nat → Nat → Nat) (d : Nat) (φ : Nat → Nat) : Prop where
  grp : Grp k g d
  sub : Sub n f e p
  lt : ∀ x, x < n → p x = true → φ x < k
  mul : ∀ x y, x < n → y < n → p x = true → p y = true → φ (f x y) = g (φ x) (φ y)
  onto : ∀ i, i < k → ∃ x, x < n ∧ p x = true ∧ φ x = i

section
variable {n e k d : Nat} {f g : Nat → Nat → Nat} {p : Nat → Bool} {φ : Nat → Nat}
theorem Hm.one (H : Hm n f e p k g d φ) (G : Grp n f e) : φ e = d := by
  have h1 := H.mul e e G.el G.el H.sub.one H.sub.one
  have hl := H.lt e G.el H.sub.one
  rw [G.one_l e G.el] at h1
  have h2 : g (φ e) d = g (φ e) (φ e) := by rw [← h1, H.grp.one_r _ hl]
  exact (H.grp.cancel_l hl H.grp.el hl h2).symm
theorem Hm.iv (H : Hm n f e p k g d φ) (G : Grp n f e) {x : Nat} (hx : x < n) (px : p x = true) : φ (Go.Proofs.YtjbfkdaodfdpcaaDoor.iv n f e x) = Go.Proofs.YtjbfkdaodfdpcaaDoor.iv k g d (φ x) := by
  have ix := G.iv_lt hx
  have pix := H.sub.inv x hx px
  refine H.grp.iv_unique (H.lt x hx px) (H.lt _ ix pix) (.inl ?_)
  rw [← H.mul _ _ hx ix px pix, G.mul_iv hx, H.one G]
theorem Hm.cjr (H : Hm n f e p k g d φ) (G : Grp n f e) {x c : Nat} (hx : x < n) (hc : c < n) (px : p x = true) (pc : p c = true) : φ (Go.Proofs.YtjbfkdaodfdpcaaDoor.cjr n f e x c) = Go.Proofs.YtjbfkdaodfdpcaaDoor.cjr k g d (φ x) (φ c) := by
  have ic := G.iv_lt hc
  have pi := H.sub.inv c hc pc
  show φ (f (f _ _) _) = g (g _ _) _
  rw [H.mul _ _ (G.cl _ _ ic hx) hc (H.sub.mul _ _ ic hx pi px) pc, H.mul _ _ ic hx pi px, H.iv G hc pc]
theorem Hm.cmt (H : Hm n f e p k g d φ) (G : Grp n f e) {x c : Nat} (hx : x < n) (hc : c < n) (px : p x = true) (pc : p c = true) : φ (Go.Proofs.YtjbfkdaodfdpcaaDoor.cmt n f e x c) = Go.Proofs.YtjbfkdaodfdpcaaDoor.cmt k g d (φ x) (φ c) := by
  have ic := G.iv_lt hc
  have ix := G.iv_lt hx
  have pic := H.sub.inv c hc pc
  have pix := H.sub.inv x hx px
  show φ (f (f _ _) (f _ _)) = g (g _ _) (g _ _)
  rw [H.mul _ _ (G.cl _ _ ix ic) (G.cl _ _ hx hc) (H.sub.mul _ _ ix ic pix pic) (H.sub.mul _ _ hx hc px pc), H.mul _ _ ix ic pix pic, H.mul _ _ hx hc px pc, H.iv G hc pc, H.iv G hx px]
theorem cmt_in {q : Nat → Bool} (G : Grp n f e) (hq : Sub n f e q) {x c : Nat} (hx : x < n) (hc : c < n) (px : q x = true) (pc : q c = true) : q (cmt n f e x c) = true :=
  hq.mul _ _ (G.cl _ _ (G.iv_lt hx) (G.iv_lt hc)) (G.cl _ _ hx hc) (hq.mul _ _ (G.iv_lt hx) (G.iv_lt hc) (hq.inv _ hx px) (hq.inv _ hc pc)) (hq.mul _ _ hx hc px pc)

/-- What goes into a set. -/
def pre (p : Nat → Bool) (φ : Nat → Nat) (b : Nat → Bool) (x : Nat) : Bool := p x && b (φ x)
theorem pre_iff {b : Nat → Bool} {x : Nat} : pre p φ b x = true ↔ p x = true ∧ b (φ x) = true := by unfold pre; rw [Bool.and_eq_true]
theorem Hm.pre_sub (H : Hm n f e p k g d φ) (G : Grp n f e) {b : Nat → Bool} (hb : Sub k g d b) : Sub n f e (pre p φ b) :=
  sub_of G (pre_iff.2 ⟨H.sub.one, by rw [H.one G]; exact hb.one⟩) fun x y hx hy h1 h2 => by
    obtain ⟨h1, h3⟩ := pre_iff.1 h1
    obtain ⟨h2, h4⟩ := pre_iff.1 h2
    exact pre_iff.2 ⟨H.sub.mul x y hx hy h1 h2, by rw [H.mul x y hx hy h1 h2]; exact hb.mul _ _ (H.lt x hx h1) (H.lt y hy h2) h3 h4⟩
theorem Hm.pre_mxn (H : Hm n f e p k g d φ) (G : Grp n f e) {a b : Nat → Bool} (ha : Sub k g d a) (h : Mxn k g d a b) : Mxn n f e (pre p φ a) (pre p φ b) where
  sub := H.pre_sub G h.sub
  le x hx hh := by obtain ⟨h1, h2⟩ := pre_iff.1 hh; exact pre_iff.2 ⟨h1, h.le _ (H.lt x hx h1) h2⟩
  nml c x hc hx hcc hh := by
    obtain ⟨h1, h2⟩ := pre_iff.1 hh
    obtain ⟨h3, h4⟩ := pre_iff.1 hcc
    exact pre_iff.2 ⟨cjr_in G H.sub hx hc h1 h3, by rw [H.cjr G hx hc h1 h3]; exact h.nml _ _ (H.lt c hc h3) (H.lt x hx h1) h4 h2⟩
  ne := by
    obtain ⟨i, i1, i2, i3⟩ := h.ne
    obtain ⟨x, x1, x2, rfl⟩ := H.onto i i1
    exact ⟨x, x1, pre_iff.2 ⟨x2, i2⟩, by unfold pre; rw [i3, Bool.and_false]⟩
  mx x hx hax hbx t ht h1 h2 y hy hay := by
    obtain ⟨px, ax⟩ := pre_iff.1 hax
    obtain ⟨py, ay⟩ := pre_iff.1 hay
    have bx : b (φ x) = false := by unfold pre at hbx; rwa [px, Bool.true_and] at hbx
    -- where t goes
    let T : Nat → Bool := fun i => decide (∃ z, z < n ∧ p z = true ∧ a (φ z) = true ∧ t z = true ∧ φ z = i)
    have hT : ∀ i, T i = true ↔ ∃ z, z < n ∧ p z = true ∧ a (φ z) = true ∧ t z = true ∧ φ z = i := fun i => decide_eq_true_iff
    have ts : Sub k g d T := sub_of H.grp ((hT d).2 ⟨e, G.el, H.sub.one, by rw [H.one G]; exact ha.one, ht.one, H.one G⟩) fun i j hi hj h3 h4 => by
      obtain ⟨z, z1, z2, z3, z4, rfl⟩ := (hT i).1 h3
      obtain ⟨w, w1, w2, w3, w4, rfl⟩ := (hT j).1 h4
      exact (hT _).2 ⟨f z w, G.cl _ _ z1 w1, H.sub.mul _ _ z1 w1 z2 w2, by rw [H.mul _ _ z1 w1 z2 w2]; exact ha.mul _ _ hi hj z3 w3, ht.mul _ _ z1 w1 z4 w4, H.mul _ _ z1 w1 z2 w2⟩
    have hTa := h.mx (φ x) (H.lt x hx px) ax bx T ts (fun i hi bi => by
      obtain ⟨z, z1, z2, rfl⟩ := H.onto i hi
      exact (hT _).2 ⟨z, z1, z2, h.le _ hi bi, h1 z z1 (pre_iff.2 ⟨z2, bi⟩), rfl⟩) (fun i hi ai => by
      obtain ⟨z, z1, z2, rfl⟩ := H.onto i hi
      rw [← H.cjr G hx z1 px z2]
      have hz := h2 z z1 (pre_iff.2 ⟨z2, ai⟩)
      refine (hT _).2 ⟨_, G.cjr_lt hx z1, cjr_in G H.sub hx z1 px z2, ?_, hz, rfl⟩
      rw [H.cjr G hx z1 px z2]
      exact cjr_in H.grp ha (H.lt x hx px) hi ax ai) (φ y) (H.lt y hy py) ay
    obtain ⟨z, z1, z2, z3, z4, z5⟩ := (hT _).1 hTa
    -- y = z (z^-1 y), and this goes to the one
    have iz := G.iv_lt z1
    have hw := G.cl _ _ iz hy
    have pw := H.sub.mul _ _ iz hy (H.sub.inv z z1 z2) py
    have hφ : φ (f (Go.Proofs.YtjbfkdaodfdpcaaDoor.iv n f e z) y) = d := by
      rw [H.mul _ _ iz hy (H.sub.inv z z1 z2) py, H.iv G z1 z2, z5, H.grp.iv_mul (H.lt y hy py)]
    have ht2 := h1 _ hw (pre_iff.2 ⟨pw, by rw [hφ]; exact h.sub.one⟩)
    have := ht.mul _ _ z1 hw z4 ht2
    rwa [← G.assoc _ _ _ z1 iz hy, G.mul_iv z1, G.one_l y hy] at this
theorem Hm.of_pre (H : Hm n f e p k g d φ) (G : Grp n f e) {a b : Nat → Bool} (hb : Sub k g d b) (h : Mxn n f e (pre p φ a) (pre p φ b)) : Mxn k g d a b where
  sub := hb
  le i hi bi := by
    obtain ⟨x, x1, x2, rfl⟩ := H.onto i hi
    exact (pre_iff.1 (h.le x x1 (pre_iff.2 ⟨x2, bi⟩))).2
  nml c i hc hi ac bi := by
    obtain ⟨x, x1, x2, rfl⟩ := H.onto i hi
    obtain ⟨y, y1, y2, rfl⟩ := H.onto c hc
    have := (pre_iff.1 (h.nml y x y1 x1 (pre_iff.2 ⟨y2, ac⟩) (pre_iff.2 ⟨x2, bi⟩))).2
    rwa [H.cjr G x1 y1 x2 y2] at this
  ne := by
    obtain ⟨x, x1, x2, x3⟩ := h.ne
    obtain ⟨px, ax⟩ := pre_iff.1 x2
    unfold pre at x3
    rw [px, Bool.true_and] at x3
    exact ⟨_, H.lt x x1 px, ax, x3⟩
  mx i hi ai bi t ht h1 h2 j hj aj := by
    obtain ⟨x, x1, x2, rfl⟩ := H.onto i hi
    obtain ⟨y, y1, y2, rfl⟩ := H.onto j hj
    refine (pre_iff.1 (h.mx x x1 (pre_iff.2 ⟨x2, ai⟩) (by unfold pre; rw [bi, Bool.and_false]) (pre p φ t) (H.pre_sub G ht) (fun z hz hh => ?_) (fun c hc hh => ?_) y y1 (pre_iff.2 ⟨y2, aj⟩))).2
    · obtain ⟨pz, bz⟩ := pre_iff.1 hh
      exact pre_iff.2 ⟨pz, h1 _ (H.lt z hz pz) bz⟩
    · obtain ⟨pc, ac⟩ := pre_iff.1 hh
      exact pre_iff.2 ⟨cjr_in G H.sub x1 hc x2 pc, by rw [H.cjr G x1 hc x2 pc]; exact h2 _ (H.lt c hc pc) ac⟩

/-- A chain there is one here, down to what goes to the one. -/
theorem Hm.pre_chn (H : Hm n f e p k g d φ) (G : Grp n f e) {lk : List (Nat → Bool)} (hk : Chn n f e (pre p φ (onp d)) lk) : ∀ {l : List (Nat → Bool)} {a : Nat → Bool}, Sub k g d a → Chn k g d a l → Chn n f e (pre p φ a) (l.map (pre p φ) ++ lk)
  | [], a, ha, h => (Chn.congr (fun x hx => by
      show (p x && a (φ x)) = (p x && onp d (φ x))
      cases px : p x with
      | false => rfl
      | true =>
        have hl := H.lt x hx px
        show a (φ x) = onp d (φ x)
        rw [Bool.eq_iff_iff, onp_iff]
        exact ⟨h _ hl, fun hh => by rw [hh]; exact ha.one⟩) hk).1
  | b :: l, a, ha, h => ⟨H.pre_mxn G ha h.1, H.pre_chn G hk h.1.sub h.2⟩

/-- Things of the first commute, up to the second. -/
def Abl (n : Nat) (f : Nat → Nat → Nat) (e : Nat) (p q : Nat → Bool) : Prop := ∀ x y, x < n → y < n → p x = true → p y = true → q (cmt n f e x y) = true
def AbC (n : Nat) (f : Nat → Nat → Nat) (e : Nat) : (Nat → Bool) → List (Nat → Bool) → Prop
  | _, [] => True
  | p, q :: l => Abl n f e p q ∧ AbC n f e q l
theorem Hm.pre_abl (H : Hm n f e p k g d φ) (G : Grp n f e) {a b : Nat → Bool} : Abl n f e (pre p φ a) (pre p φ b) ↔ Abl k g d a b := by
  constructor
  · intro h i j hi hj ai aj
    obtain ⟨x, x1, x2, rfl⟩ := H.onto i hi
    obtain ⟨y, y1, y2, rfl⟩ := H.onto j hj
    have := (pre_iff.1 (h x y x1 y1 (pre_iff.2 ⟨x2, ai⟩) (pre_iff.2 ⟨y2, aj⟩))).2
    rwa [H.cmt G x1 y1 x2 y2] at this
  · intro h x y hx hy h1 h2
    obtain ⟨px, ax⟩ := pre_iff.1 h1
    obtain ⟨py, ay⟩ := pre_iff.1 h2
    refine pre_iff.2 ⟨cmt_in G H.sub hx hy px py, ?_⟩
    rw [H.cmt G hx hy px py]
    exact h _ _ (H.lt x hx px) (H.lt y hy py) ax ay
theorem AbC.congr {p' : Nat → Bool} (hp : ∀ x, x < n → p' x = p x) : ∀ {l : List (Nat → Bool)}, AbC n f e p l → AbC n f e p' l
  | [], _ => trivial
  | q :: l, h => ⟨fun x y hx hy h1 h2 => h.1 x y hx hy (by rwa [← hp x hx]) (by rwa [← hp y hy]), h.2⟩
theorem pre_end (H : Hm n f e p k g d φ) (G : Grp n f e) {a : Nat → Bool} (ha : Sub k g d a) (h : ∀ x, x < k → a x = true → x = d) : ∀ x, x < n → pre p φ a x = pre p φ (onp d) x := fun x hx => by
  show (p x && a (φ x)) = (p x && onp d (φ x))
  cases px : p x with
  | false => rfl
  | true =>
    have hl := H.lt x hx px
    show a (φ x) = onp d (φ x)
    rw [Bool.eq_iff_iff, onp_iff]
    exact ⟨h _ hl, fun hh => by rw [hh]; exact ha.one⟩
theorem Hm.pre_abc (H : Hm n f e p k g d φ) (G : Grp n f e) {lk : List (Nat → Bool)} : ∀ {l : List (Nat → Bool)} {a : Nat → Bool}, Sub k g d a → Chn k g d a l → (AbC n f e (pre p φ a) (l.map (pre p φ) ++ lk) ↔ AbC k g d a l ∧ AbC n f e (pre p φ (onp d)) lk)
  | [], a, ha, h => ⟨fun hh => ⟨trivial, hh.congr fun x hx => (pre_end H G ha h x hx).symm⟩, fun hh => hh.2.congr fun x hx => pre_end H G ha h x hx⟩
  | b :: l, a, ha, h => by
    show Abl n f e (pre p φ a) (pre p φ b) ∧ AbC n f e (pre p φ b) (l.map (pre p φ) ++ lk) ↔ (Abl k g d a b ∧ AbC k g d b l) ∧ _
    rw [H.pre_abl G, H.pre_abc G h.1.sub h.2, and_assoc]
theorem Chn.subs (G : Grp n f e) : ∀ {l : List (Nat → Bool)} {p : Nat → Bool}, Chn n f e p l → ∀ q ∈ l, Sub n f e q
  | [], _, _, q, hq => by simp at hq
  | r :: l, p, h, q, hq => by
    rcases List.mem_cons.1 hq with rfl | hq
    · exact h.1.sub
    · exact Chn.subs G h.2 q hq

theorem itr_shift (nx : (Nat → Bool) → Nat → Bool) (p : Nat → Bool) : ∀ k, itr nx p (k + 1) = itr nx (nx p) k
  | 0 => rfl
  | k + 1 => by show nx (itr nx p (k + 1)) = nx (itr nx (nx p) k); rw [itr_shift nx p k]
theorem abc_down (G : Grp n f e) {nd : (Nat → Bool) → Nat → Bool} (hnd : ∀ p a, a < n → (nd p a = true ↔ Gen n f e (dnp n f e p p) a)) : ∀ {l : List (Nat → Bool)} {p r : Nat → Bool}, Chn n f e p l → AbC n f e p l → (∀ x, x < n → r x = true → p x = true) → ∃ j, ∀ a, a < n → itr nd r j a = true → a = e
  | [], p, r, h, _, hr => ⟨0, fun a ha hh => h a ha (hr a ha hh)⟩
  | q :: l, p, r, h, hA, hr => by
    obtain ⟨j, hj⟩ := abc_down G hnd (r := nd r) h.2 hA.2 fun x hx hh => ((hnd r x hx).1 hh).sub G h.1.sub fun b hb h1 => by
      obtain ⟨u, v, u1, v1, u2, v2, rfl⟩ := dnp_iff.1 h1
      exact hA.1 u v u1 v1 (hr u u1 u2) (hr v v1 v2)
    exact ⟨j + 1, fun a ha hh => hj a ha (by rwa [← itr_shift])⟩

/-- The derived series of a group goes onto that of what it goes onto. -/
theorem Hm.der (H : Hm n f e p k g d φ) (G : Grp n f e) {nd : (Nat → Bool) → Nat → Bool} (hnd : ∀ p a, a < n → (nd p a = true ↔ Gen n f e (dnp n f e p p) a)) (hall : ∀ y, y < k → Gen k g d (dnp k g d (fun _ => true) fun _ => true) y) :
    ∀ m y, y < k → ∃ x, x < n ∧ p x = true ∧ itr nd (fun _ => true) m x = true ∧ φ x = y
  | 0, y, hy => by obtain ⟨x, x1, x2, x3⟩ := H.onto y hy; exact ⟨x, x1, x2, rfl, x3⟩
  | m + 1, y, hy => by
    have ih := H.der G hnd hall m
    have hD := (G.fall hnd G.dd_nml (m + 1)).1
    let I : Nat → Bool := fun y => decide (∃ x, x < n ∧ p x = true ∧ itr nd (fun _ => true) (m + 1) x = true ∧ φ x = y)
    have hI : ∀ y, I y = true ↔ ∃ x, x < n ∧ p x = true ∧ itr nd (fun _ => true) (m + 1) x = true ∧ φ x = y := fun y => decide_eq_true_iff
    have Is : Sub k g d I := sub_of H.grp ((hI d).2 ⟨e, G.el, H.sub.one, hD.one, H.one G⟩) fun i j hi hj h1 h2 => by
      obtain ⟨x, x1, x2, x3, rfl⟩ := (hI i).1 h1
      obtain ⟨y, y1, y2, y3, rfl⟩ := (hI j).1 h2
      exact (hI _).2 ⟨f x y, G.cl _ _ x1 y1, H.sub.mul _ _ x1 y1 x2 y2, hD.mul _ _ x1 y1 x3 y3, H.mul _ _ x1 y1 x2 y2⟩
    refine (hI y).1 ((hall y hy).sub H.grp Is fun b hb h1 => ?_)
    obtain ⟨u, v, u1, v1, _, _, rfl⟩ := dnp_iff.1 h1
    obtain ⟨x, x1, x2, x3, rfl⟩ := ih u u1
    obtain ⟨z, z1, z2, z3, rfl⟩ := ih v v1
    have hl := G.cmt_lt x1 z1
    exact (hI _).2 ⟨_, hl, cmt_in G H.sub x1 z1 x2 z2, (hnd _ _ hl).2 (Gen.mem G hl (dnp_iff.2 ⟨x, z, x1, z1, x3, z3, rfl⟩)), H.cmt G x1 z1 x2 z2⟩

/-- In what is simple and has things that do not commute, commutators make all. -/
theorem simple_perfect (B : Grp k g d) (hM : Mxn k g d (fun _ => true) (onp d)) (hA : ¬ Abl k g d (fun _ => true) (onp d)) : ∀ y, y < k → Gen k g d (dnp k g d (fun _ => true) fun _ => true) y := by
  have h1 : ∃ i j, i < k ∧ j < k ∧ onp d (cmt k g d i j) = false := by
    refine Classical.byContradiction fun hh => hA fun x y hx hy _ _ => ?_
    cases h : onp d (cmt k g d x y) with
    | true => rfl
    | false => exact absurd ⟨x, y, hx, hy, h⟩ hh
  obtain ⟨i, j, hi, hj, hz⟩ := h1
  obtain ⟨C, hC⟩ := gen_ex k g d (dnp k g d (fun _ => true) fun _ => true)
  have Cs := gen_sub B hC
  have Cn := B.gen_nml (B.dnp_nml (p := fun _ => true) (q := fun _ => true) (fun _ _ _ _ _ => rfl) fun _ _ _ _ _ => rfl) hC
  have hl := B.cmt_lt hi hj
  have hzC : C (cmt k g d i j) = true := (hC _ hl).2 (Gen.mem B hl (dnp_iff.2 ⟨i, j, hi, hj, rfl, rfl, rfl⟩))
  exact fun y hy => (hC y hy).1 (hM.mx _ hl rfl hz C Cs (fun y hy h => by rw [onp_iff.1 h]; exact Cs.one) (fun b hb _ => Cn b hb _ hl hzC) y hy rfl)
end
end Go.Proofs.YtjbfkdaodfdpcaaDoor

/-
  Plain law, FRATTINI'S ARGUMENT. Conditions: none.
-/
set_option linter.all false
namespace Go.Proofs.YtjbfkdaodfdpcaaDoor
open Go.Pv

section
variable {n e P : Nat} {f : Nat → Nat → Nat} {q s : Nat → Bool}

theorem Syl.cong {f g : Nat → Nat → Nat} {j t : Nat} (hY : Syl n g e P s j t) (G : Grp n f e) (h : ∀ a b, a < n → b < n → g a b = f a b) : Syl n f e P s j t :=
  ⟨hY.sub.cong_op G h, hY.len, hY.num, hY.non⟩

/-- A part's set, as a set of the whole. -/
def upt (q s : Nat → Bool) (y : Nat) : Bool := q y && s (pix q y)
end
end Go.Proofs.YtjbfkdaodfdpcaaDoor

/-
  Nilpotent groups; classes of a quotient; the quotient by commutators. Conditions: none.
-/
set_option linter.all false
namespace Go.Proofs.YtjbfkdaodfdpcaaDoor
open Go.Pv

section
variable {n : Nat} {f : Nat → Nat → Nat} {e : Nat}
/-! ### Classes of a quotient -/

theorem lead_le {k : Nat} {r1 r2 : Nat → Nat → Bool} (E1 : Eqv n r1) (E2 : Eqv k r2) (rep : Nat → Nat) (hr : ∀ i, i < k → rep i < n) (h : ∀ i j, i < k → j < k → r1 (rep i) (rep j) = true → r2 i j = true) : (mem k (lead r2)).length ≤ (mem n (lead r1)).length := by
  have hex : ∀ i, ∃ x, i < k → x < n ∧ lead r1 x = true ∧ r1 x (rep i) = true := fun i => by
    by_cases hi : i < k
    · obtain ⟨x, h1, h2, h3⟩ := E1.least (hr i hi)
      exact ⟨x, fun _ => ⟨h1, h2, h3⟩⟩
    · exact ⟨0, fun h => absurd h hi⟩
  obtain ⟨g, hg⟩ := Classical.axiomOfChoice hex
  rw [← List.length_map (f := g) («as» := mem k (lead r2))]
  refine List.Nodup.length_le_of_subset (nodup_map (List.nodup_range.filter _) fun i hi j hj he => ?_) fun x hx => ?_
  · obtain ⟨i1, i2⟩ := mem_mem.1 hi
    obtain ⟨j1, j2⟩ := mem_mem.1 hj
    obtain ⟨a1, a2, a3⟩ := hg i i1
    obtain ⟨b1, b2, b3⟩ := hg j j1
    rw [← he] at b3
    exact E2.lead_eq i1 j1 i2 j2 (h i j i1 j1 (E1.trans _ _ _ (hr i i1) a1 (hr j j1) (E1.symm _ _ a1 (hr i i1) a3) b3))
  · obtain ⟨i, hi, rfl⟩ := List.mem_map.1 hx
    obtain ⟨i1, i2⟩ := mem_mem.1 hi
    exact mem_mem.2 ⟨(hg i i1).1, (hg i i1).2.1⟩
theorem Qm.iv {k : Nat} {cl rep : Nat → Nat} (Q : Qm n f k cl rep) (G : Grp n f e) {a : Nat} (ha : a < n) : iv k (qop f cl rep) (cl e) (cl a) = cl (Go.Proofs.YtjbfkdaodfdpcaaDoor.iv n f e a) :=
  ((Q.grp G).iv_unique (Q.lt a ha) (Q.lt _ (G.iv_lt ha)) (.inl (by rw [Q.op ha (G.iv_lt ha), G.mul_iv ha]))).symm
theorem Qm.cjb {k : Nat} {cl rep : Nat → Nat} (Q : Qm n f k cl rep) (G : Grp n f e) {x y : Nat} (hx : x < n) (hy : y < n) (h : cjb n f e x y = true) : cjb k (qop f cl rep) (cl e) (cl x) (cl y) = true := by
  obtain ⟨a, ha, rfl⟩ := cjb_iff.1 h
  have ia := G.iv_lt ha
  refine cjb_iff.2 ⟨cl a, Q.lt a ha, ?_⟩
  rw [Q.iv G ha, Q.op ia hx, Q.op (G.cl _ _ ia hx) ha]
/-- A quotient has no more classes. -/
theorem Qm.classes {k : Nat} {cl rep : Nat → Nat} (Q : Qm n f k cl rep) (G : Grp n f e) : (mem k (lead (Go.Proofs.YtjbfkdaodfdpcaaDoor.cjb k (qop f cl rep) (cl e)))).length ≤ (mem n (lead (Go.Proofs.YtjbfkdaodfdpcaaDoor.cjb n f e))).length :=
  lead_le G.cjb_eqv (Q.grp G).cjb_eqv rep Q.rlt fun i j hi hj h => by
    have := Q.cjb G (Q.rlt i hi) (Q.rlt j hj) h
    rwa [Q.at_ i hi, Q.at_ j hj] at this
end
end Go.Proofs.YtjbfkdaodfdpcaaDoor

/-
  Plain law: nilpotent is just where all of Sylow's subgroups are normal; both central series are as long. Conditions: none.
-/
set_option linter.all false
namespace Go.Proofs.YtjbfkdaodfdpcaaDoor
open Go.Pv

section
variable {n e P : Nat} {f : Nat → Nat → Nat} {p q s : Nat → Bool}

/-! ### Both series -/
section
variable {nl : (Nat → Bool) → Nat → Bool}
theorem Stp.le {T : Nat → Nat → Bool} {K k : Nat} (h : Stp n T K) (he : ∀ a, a < n → T (k + 1) a = T k a) : K ≤ k :=
  Nat.le_of_not_lt fun hh => h.ne k hh he
end

/-! ### Sylow's subgroups of what is nilpotent -/
/-! ### A group of a power of P things, and a normal subgroup that is not all -/
/-! ### Where all of Sylow's subgroups are normal -/
theorem prime_div {t : Nat} (ht : 2 ≤ t) (hb : t ≤ 100) : ∃ r, isPr r ∧ r ∣ t := by
  obtain ⟨r, r1, r2, r3⟩ := least_div ht
  have hr := Nat.le_of_dvd (by omega) r2
  exact ⟨r, ⟨r1, by omega, fun d hd h2 hm => by
    rcases r3 d (Nat.dvd_of_mod_eq_zero hm) with h | h <;> omega⟩, r2⟩
theorem isPr.two {P Q : Nat} (hP : isPr P) (hQ : isPr Q) (h : P ∣ Q) : P = Q := by
  rcases hQ.div h with h1 | h1
  · have := hP.1; omega
  · exact h1
/-- What commutes with a thing, up to a normal subgroup. -/
def ctz (n : Nat) (f : Nat → Nat → Nat) (e : Nat) (z : Nat → Bool) (x y : Nat) : Bool := z (cmt n f e x y)
end
end Go.Proofs.YtjbfkdaodfdpcaaDoor

/-
  Plain: each step of a chain has its quotient; it is of a prime where things commute; what is solvable. Conditions: none.
-/
set_option linter.all false
namespace Go.Proofs.YtjbfkdaodfdpcaaDoor

section
variable {n e : Nat} {f : Nat → Nat → Nat} {p q : Nat → Bool}
theorem mem_true (n : Nat) : (mem n fun _ => true).length = n := by unfold mem; rw [List.filter_eq_self.2 fun _ _ => rfl, List.length_range]
/-- The quotient of a group. -/
theorem quot_hm (G : Grp n f e) (hq : Sub n f e q) (hN : Nml n f e q) : Hm n f e (fun _ => true) (cst n (dco n f q (onp e))).length (qop f (clq n (dco n f q (onp e))) (rpq n (dco n f q (onp e)))) (clq n (dco n f q (onp e)) e) (clq n (dco n f q (onp e))) := by
  have E := G.dco_eqv hq G.onp_sub
  have Q := cst_qm G E fun a b c d ha hb hc hd h1 h2 => G.rco_cong hq hN ha hb hc hd h1 h2
  exact ⟨Q.grp G, G.all_sub, fun x hx _ => Q.lt x hx, fun x y hx hy _ _ => (Q.op hx hy).symm, fun i hi => ⟨_, Q.rlt i hi, rfl, Q.at_ i hi⟩⟩
theorem quot_ker (G : Grp n f e) (hq : Sub n f e q) {x : Nat} (hx : x < n) : clq n (dco n f q (onp e)) x = clq n (dco n f q (onp e)) e ↔ q x = true := by
  have E := G.dco_eqv hq G.onp_sub
  rw [clq_iff E hx G.el, G.rco_iff hx G.el, G.one_l _ (G.iv_lt hx)]
  exact ⟨fun h => by have := hq.inv _ (G.iv_lt hx) h; rwa [G.iv_iv hx] at this, fun h => hq.inv x hx h⟩
theorem quot_num (G : Grp n f e) (hq : Sub n f e q) : (cst n (dco n f q (onp e))).length * (mem n q).length = n := by
  rw [cst_len]; exact G.rco_num hq
/-- The part of a group. -/
theorem part_hm (G : Grp n f e) (hp : Sub n f e p) : Hm n f e p (thl n p).length (pop n f p) (pix p e) (pix p) :=
  ⟨ptb_grp G hp, hp, fun x hx px => (pix_at hx px).1, fun x y hx hy px py => (pop_pix hp hx hy px py).symm, fun i hi => ⟨lat n p i, (lat_at hi).1, (lat_at hi).2.1, (lat_at hi).2.2.2⟩⟩
variable {k k2 d d2 : Nat} {g g2 : Nat → Nat → Nat} {φ ψ : Nat → Nat}
theorem Hm.comp (H : Hm n f e p k g d φ) (K : Hm k g d (fun _ => true) k2 g2 d2 ψ) : Hm n f e p k2 g2 d2 fun x => ψ (φ x) where
  grp := K.grp
  sub := H.sub
  lt x hx px := K.lt _ (H.lt x hx px) rfl
  mul x y hx hy px py := by
    show ψ (φ (f x y)) = _
    rw [H.mul x y hx hy px py, K.mul _ _ (H.lt x hx px) (H.lt y hy py) rfl rfl]
  onto i hi := by
    obtain ⟨y, y1, _, rfl⟩ := K.onto i hi
    obtain ⟨x, x1, x2, rfl⟩ := H.onto y y1
    exact ⟨x, x1, x2, rfl⟩
theorem Hm.cong_op (H : Hm n f e p k g d φ) (h : ∀ a b, a < k → b < k → g2 a b = g a b) (G2 : Grp k g2 d) : Hm n f e p k g2 d φ :=
  ⟨G2, H.sub, H.lt, fun x y hx hy px py => by rw [H.mul x y hx hy px py, h _ _ (H.lt x hx px) (H.lt y hy py)], H.onto⟩
/-- What stands of a smaller one in the part. -/
def dwn (n : Nat) (p q : Nat → Bool) (i : Nat) : Bool := q (lat n p i)
theorem lft_dwn (hle : ∀ x, x < n → q x = true → p x = true) : ∀ x, x < n → lft p (dwn n p q) x = q x := fun x hx => by
  unfold lft dwn
  cases px : p x with
  | false =>
    cases qx : q x with
    | false => rfl
    | true => rw [hle x hx qx] at px; cases px
  | true => rw [lat_pix hx px]; rfl
theorem dwn_sub (G : Grp n f e) (hp : Sub n f e p) (hq : Sub n f e q) : Sub (thl n p).length (pop n f p) (pix p e) (dwn n p q) :=
  sub_of (ptb_grp G hp) (by unfold dwn; rw [lat_pix G.el hp.one]; exact hq.one) fun i j hi hj h1 h2 => by
    unfold dwn at h1 h2 ⊢
    rw [(pop_at G hp hi hj).2]
    exact hq.mul _ _ (lat_at hi).1 (lat_at hj).1 h1 h2
theorem dwn_nml (G : Grp n f e) (hp : Sub n f e p) : Nml (thl n p).length (pop n f p) (pix p e) (dwn n p q) ↔ ∀ a x, a < n → x < n → p a = true → p x = true → q x = true → q (cjr n f e x a) = true := by
  have H := part_hm G hp
  constructor
  · intro h a x ha hx pa px qx
    have := h (pix p a) (pix_at ha pa).1 (pix p x) (pix_at hx px).1 (by unfold dwn; rw [lat_pix hx px]; exact qx)
    rw [← H.cjr G hx ha px pa] at this
    unfold dwn at this
    rwa [lat_pix (G.cjr_lt hx ha) (cjr_in G hp hx ha px pa)] at this
  · intro h i hi j hj hd
    obtain ⟨a1, a2, _, a4⟩ := lat_at hi
    obtain ⟨b1, b2, _, b4⟩ := lat_at hj
    have := h _ _ a1 b1 a2 b2 hd
    rw [← a4, ← b4, ← H.cjr G b1 a1 b2 a2]
    unfold dwn
    rwa [lat_pix (G.cjr_lt b1 a1) (cjr_in G hp b1 a1 b2 a2)]
theorem dwn_len (hle : ∀ x, x < n → q x = true → p x = true) : (mem (thl n p).length (dwn n p q)).length = (mem n q).length := by
  have h1 := congrArg List.length (lft_thl p (dwn n p q) n)
  rw [List.length_map] at h1
  have e1 : (thl (thl n p).length (dwn n p q)).length = (mem (thl n p).length (dwn n p q)).length := thl_len _ _
  have e2 : (thl n (lft p (dwn n p q))).length = (mem n (lft p (dwn n p q))).length := thl_len _ _
  rw [← e1, h1, e2, mem_congr (lft_dwn hle)]

/-- The quotient of a subgroup by what is normal in it. -/
theorem step_hm (G : Grp n f e) (hp : Sub n f e p) (hq : Sub n f e q) (hle : ∀ x, x < n → q x = true → p x = true) (hN : ∀ a x, a < n → x < n → p a = true → p x = true → q x = true → q (cjr n f e x a) = true) :
    ∃ k g d φ, Hm n f e p k g d φ ∧ (∀ x, x < n → pre p φ (onp d) x = q x) ∧ k * (mem n q).length = (mem n p).length := by
  have H := part_hm G hp
  have P := H.grp
  have ds := dwn_sub G hp hq
  have K := quot_hm P ds ((dwn_nml G hp).2 hN)
  refine ⟨_, _, _, _, H.comp K, fun x hx => ?_, ?_⟩
  · unfold pre
    cases px : p x with
    | false =>
      cases qx : q x with
      | false => rfl
      | true => rw [hle x hx qx] at px; cases px
    | true =>
      rw [Bool.true_and, Bool.eq_iff_iff, onp_iff, quot_ker P ds (H.lt x hx px)]
      unfold dwn
      rw [lat_pix hx px]
  · have := quot_num P ds
    rw [dwn_len hle] at this
    have e1 : (thl n p).length = (mem n p).length := thl_len _ _
    rw [← e1]; exact this
theorem Mxn.hm (G : Grp n f e) (hp : Sub n f e p) (h : Mxn n f e p q) : ∃ k g d φ, Hm n f e p k g d φ ∧ (∀ x, x < n → pre p φ (onp d) x = q x) ∧ k * (mem n q).length = (mem n p).length ∧ Mxn k g d (fun _ => true) (onp d) := by
  obtain ⟨k, g, d, φ, H, h1, h2⟩ := step_hm G hp h.sub h.le fun a x ha hx pa _ qx => h.nml a x ha hx pa qx
  refine ⟨k, g, d, φ, H, h1, h2, H.of_pre G H.grp.onp_sub ?_⟩
  refine (h.congr_r G (H.pre_sub G H.grp.onp_sub) h1).congr_l fun x hx => ?_
  show (p x && true) = p x
  rw [Bool.and_true]

/-- Of a prime of classes, just where things commute. -/
theorem simple_prime (B : Grp k g d) (hk : k ≤ 60) (hM : Mxn k g d (fun _ => true) (onp d)) : Abl k g d (fun _ => true) (onp d) ↔ isPr k := by
  obtain ⟨x, x1, _, x3⟩ := hM.ne
  have xd : x ≠ d := fun h => by rw [onp_iff.2 h] at x3; cases x3
  have hk2 : 2 ≤ k := by
    have := B.el
    omega
  constructor
  · intro hA
    obtain ⟨r, hr, hrk⟩ := prime_div hk2 (by omega)
    have hc := B.cauchy hr hrk
    have hne : (mem k fun a => decide (ord k g d a = r)) ≠ [] := fun h0 => by
      rw [h0] at hc
      have h2 := Nat.le_of_dvd (by decide) hc
      have h3 := hr.1
      rw [List.length_nil] at h2
      omega
    obtain ⟨y, hy⟩ := List.exists_mem_of_ne_nil _ hne
    obtain ⟨y1, y2⟩ := mem_mem.1 hy
    rw [decide_eq_true_eq] at y2
    have cs := B.cyp_sub y1
    have hlen := B.cyp_len y1
    have hyd : onp d y = false := by
      cases h : onp d y with
      | false => rfl
      | true =>
        exfalso
        have := onp_iff.1 h
        have h2 := (B.pw_eq_one y1 1).1 (by rw [B.pw_one y1]; exact this)
        rw [y2] at h2
        have h3 := Nat.le_of_dvd (by decide) h2
        have := hr.1
        omega
    have hcy : cyp k g d y y = true := by have := B.cyp_of y1 1; rwa [show pw g d y 1 = y from by show g (pw g d y 0) y = y; exact B.one_l y y1] at this
    have hall := hM.mx y y1 rfl hyd _ cs (fun z hz h => by rw [onp_iff.1 h]; exact cs.one) fun b hb _ => by
      have : cjr k g d y b = y := by
        have h1 := onp_iff.1 (hA y b y1 hb rfl rfl)
        have h2 := (B.cmt_one y1 hb).1 h1
        unfold cjr
        rw [B.assoc _ _ _ (B.iv_lt hb) y1 hb, h2, ← B.assoc _ _ _ (B.iv_lt hb) hb y1, B.iv_mul hb, B.one_l y y1]
      rw [this]; exact hcy
    have : k = r := by
      rw [← y2, ← hlen]
      exact (mem_all.2 fun a ha => hall a ha rfl).symm
    rw [this]; exact hr
  · intro hk
    have ho : ord k g d x = k := by
      rcases hk.div (B.ord_dvd x1) with h | h
      · have h2 := (B.pw_eq_one x1 1).2 (by rw [h]; exact Nat.dvd_refl _)
        rw [B.pw_one x1] at h2
        exact absurd h2 xd
      · exact h
    have hall : ∀ y, y < k → cyp k g d x y = true := mem_all.1 (by rw [B.cyp_len x1, ho])
    intro y z hy hz _ _
    obtain ⟨i, _, rfl⟩ := cyp_iff.1 (hall y hy)
    obtain ⟨j, _, rfl⟩ := cyp_iff.1 (hall z hz)
    rw [onp_iff, B.cmt_one hy hz, ← B.pw_add x1, ← B.pw_add x1, Nat.add_comm]
theorem Mxn.prime (G : Grp n f e) (hb : n ≤ 60) (hp : Sub n f e p) (h : Mxn n f e p q) : Abl n f e p q ↔ isPr ((mem n p).length / (mem n q).length) := by
  obtain ⟨k, g, d, φ, H, h1, h2, h3⟩ := h.hm G hp
  have hq := h.sub.pos G.el
  have hk : (mem n p).length / (mem n q).length = k := by rw [← h2]; exact Nat.mul_div_cancel _ hq
  have hpn : (mem n p).length ≤ n := Nat.le_trans (List.length_filter_le _ _) (by rw [List.length_range]; exact Nat.le_refl _)
  have hk60 : k ≤ 60 := by
    have : k * 1 ≤ k * (mem n q).length := Nat.mul_le_mul_left _ hq
    omega
  rw [hk, ← simple_prime H.grp hk60 h3, ← H.pre_abl G]
  constructor
  · intro hA x y hx hy p1 p2
    rw [h1 _ (G.cmt_lt hx hy)]
    exact hA x y hx hy (pre_iff.1 p1).1 (pre_iff.1 p2).1
  · intro hA x y hx hy p1 p2
    rw [← h1 _ (G.cmt_lt hx hy)]
    exact hA x y hx hy (pre_iff.2 ⟨p1, rfl⟩) (pre_iff.2 ⟨p2, rfl⟩)

/-- SOLVABLE, just where things commute at each step. -/
theorem slv_iff (G : Grp n f e) {nd : (Nat → Bool) → Nat → Bool} (hnd : ∀ p a, a < n → (nd p a = true ↔ Gen n f e (dnp n f e p p) a)) {l : List (Nat → Bool)} (hl : Chn n f e (fun _ => true) l) {K : Nat} (hK : Stp n (itr nd fun _ => true) K) :
    AbC n f e (fun _ => true) l ↔ ∀ a, a < n → itr nd (fun _ => true) K a = true → a = e := by
  constructor
  · intro hA
    obtain ⟨j, hj⟩ := abc_down G hnd (r := fun _ => true) hl hA fun _ _ h => h
    intro a ha h
    rcases Nat.le_total K j with hkj | hjk
    · obtain ⟨i, rfl⟩ := Nat.le.dest hkj
      refine hj a ha ?_
      rw [Stp.after (fun p q h => nx_congr hnd dd_congr p q h) hK i a ha]; exact h
    · obtain ⟨i, rfl⟩ := Nat.le.dest hjk
      have key : ∀ i, itr nd (fun _ => true) (j + i) a = true → itr nd (fun _ => true) j a = true := by
        intro i
        induction i with
        | zero => exact id
        | succ i ih => exact fun h => ih (G.fall_le hnd G.dd_nml G.dd_le (j + i) ha h)
      exact hj a ha (key i h)
  · intro hT
    have key : ∀ (l : List (Nat → Bool)) (p : Nat → Bool), Sub n f e p → Chn n f e p l → AbC n f e p l := by
      intro l
      induction l with
      | nil => intro _ _ _; trivial
      | cons q l ih =>
        intro p hp h
        refine ⟨?_, ih q h.1.sub h.2⟩
        obtain ⟨k, g, d, φ, H, h1, _, h3⟩ := h.1.hm G hp
        refine Classical.byContradiction fun hA => ?_
        have hB : ¬ Abl k g d (fun _ => true) (onp d) := fun hB => hA fun x y hx hy p1 p2 => by
          rw [← h1 _ (G.cmt_lt hx hy)]
          exact (H.pre_abl G).2 hB x y hx hy (pre_iff.2 ⟨p1, rfl⟩) (pre_iff.2 ⟨p2, rfl⟩)
        have hperf := simple_perfect H.grp h3 hB
        obtain ⟨y, y1, _, y3⟩ := h3.ne
        obtain ⟨x, x1, x2, x3, rfl⟩ := H.der G hnd hperf K y y1
        rw [hT x x1 x3, H.one G, onp_iff.2 rfl] at y3
        cases y3
    exact key l _ G.all_sub hl
end
end Go.Proofs.YtjbfkdaodfdpcaaDoor

/-
  Calls that write what is the caller's own: contracts over blocks. Conditions: none; a library text.
-/
set_option linter.all false
namespace Go.Pv
open Go.RowKit

def ancs : Nat → Nat → Heap
  | _, 0 => []
  | k, n + 1 => .anc k k :: ancs (k + 1) n

theorem ancs_get : ∀ (n k j : Nat) (b : Blk), (ancs k n)[j]? = some b → j < n ∧ b = .anc (k + j) (k + j)
  | 0, k, j, b, h => by simp [ancs] at h
  | n + 1, k, 0, b, h => by simp [ancs] at h; exact ⟨by omega, h.symm⟩
  | n + 1, k, j + 1, b, h => by
    have := ancs_get n (k + 1) j b (by simpa [ancs] using h)
    refine ⟨by omega, ?_⟩
    rw [this.2, show k + 1 + j = k + (j + 1) by omega]

theorem ancs_at : ∀ (n k j : Nat), j < n → (ancs k n)[j]? = some (.anc (k + j) (k + j))
  | n + 1, k, 0, _ => rfl
  | n + 1, k, j + 1, h => by
    rw [show ancs k (n + 1) = .anc k k :: ancs (k + 1) n from rfl, List.getElem?_cons_succ, ancs_at n (k + 1) j (by omega), show k + 1 + j = k + (j + 1) by omega]

def entA : Nat → List AV → List (Nat × AV)
  | _, [] => []
  | k, a :: r => (k, a) :: entA (k + 1) r

theorem entA_lk : ∀ (l : List AV) (k t : Nat), lk (entA k l) t = if k ≤ t then l.getD (t - k) .dead else .dead
  | [], k, t => by simp [entA, lk]
  | a :: r, k, t => by
    simp only [entA, lk]
    by_cases h : k = t
    · subst h; simp
    · rw [show (k == t) = false by simpa using h]
      simp only [cond_false]
      rw [entA_lk r (k + 1) t]
      by_cases hk : k ≤ t
      · rw [if_pos (by omega), if_pos hk, show t - k = (t - (k + 1)) + 1 by omega]; rfl
      · rw [if_neg (by omega), if_neg hk]

theorem app_get {H X : Heap} {k : Nat} {b : Blk} (h : (H ++ X)[k]? = some b) : (k < H.length ∧ H[k]? = some b) ∨ X[k - H.length]? = some b := by
  by_cases hk : k < H.length
  · exact .inl ⟨hk, by rwa [List.getElem?_append_left hk] at h⟩
  · exact .inr (by rwa [List.getElem?_append_right (by omega)] at h)

section
variable {P : Program} {T : TypeId → Option TI} {C : Ctx} {m : Map} {s : St} {tmps : Array Value} {w : World}

theorem Rel.addAnc (R : Rel C m s tmps w) {n : Nat} (hn : n ≤ s.H.length) (ha : ∀ i, i < n → m i = C.anc i) : Rel C m { s with H := s.H ++ ancs 0 n } tmps w := by
  have gen : ∀ (k : Nat) (b : Blk), (∀ i j, b ≠ .anc i j) → (s.H ++ ancs 0 n)[k]? = some b → k < s.H.length ∧ s.H[k]? = some b := by
    intro k b hb h
    rcases app_get h with h | h
    · exact h
    · exact absurd (ancs_get _ _ _ _ h).2 (hb _ _)
  have own : ∀ (k : Nat) (c : List AV), (s.H ++ ancs 0 n)[k]? = some (.own c) → k < s.H.length ∧ s.H[k]? = some (.own c) := fun k c h => gen k _ (fun _ _ h => by cases h) h
  have mps : ∀ (k : Nat) (kk : IntKind) (d : Int → Bool) (v : Int → PV), (s.H ++ ancs 0 n)[k]? = some (Blk.mp kk d v) → k < s.H.length ∧ s.H[k]? = some (Blk.mp kk d v) := fun k _ _ _ h => gen k _ (fun _ _ h => by cases h) h
  have ho : ∀ b, OK C m s.H w b → OK C m (s.H ++ ancs 0 n) w b := fun b h => ⟨h.1, h.2.1, fun k c l hk hl => h.2.2 k c l (own k c hk).2 hl⟩
  have hlen : s.H.length ≤ (s.H ++ ancs 0 n).length := by simp
  have rd : ∀ p v, Reads (OK C m s.H w) w p v → Reads (OK C m (s.H ++ ancs 0 n) w) w p v := fun p v h => h.mono ho
  refine ⟨R.laid.ext rd, R.below, R.base, R.size, fun k k' c c' l l' h1 h2 => R.inj k k' c c' l l' (own k c h1).2 (own k' c' h2).2, fun k c h => (R.blk k c (own k c h).2).ext rd hlen (fun _ _ => rfl) rfl fun _ _ => rfl,
    fun k c h => (R.fro k c (gen k _ (fun _ _ h => by cases h) h).2).ext ho (fun _ _ => rfl) rfl, fun t => (R.slot t).ext rd hlen fun _ _ => rfl, fun k kk d v h => (R.mp.1 k kk d v (mps k kk d v h).2).ext ho (fun _ _ => rfl) rfl fun _ _ => rfl,
    fun k k' kk d v kk' d' v' l l' h1 h2 => R.mp.2.1 k k' kk d v kk' d' v' l l' (mps _ _ _ _ h1).2 (mps _ _ _ _ h2).2, fun k i j h => ?_⟩
  rcases app_get h with h | h
  · obtain ⟨a1, a2⟩ := R.mp.2.2 k i j h.2
    exact ⟨by simp; omega, a2⟩
  · obtain ⟨a1, a2⟩ := ancs_get _ _ _ _ h
    cases a2
    refine ⟨by simp; omega, ?_⟩
    rw [ha _ (by omega)]

/-! ### The contract -/

/-- A CONTRACT OVER BLOCKS: called with values that are so over such blocks of the caller's own, the function returns so, over those blocks as they are then, and new ones. -/
def FnM (P : Program) (f : FuncId) (args : List AV) (H0 : Heap) (r : AV) (H1 : Heap) : Prop :=
  Fun P f ∧ ∀ (C : Ctx) (m : Map) (w : World) (vals : Array Value), Rel C m ⟨args.length, entA 0 args, H0 ++ ancs 0 H0.length⟩ vals w →
    Calls P f vals w fun e w' => ∃ v m', e = .returned v ∧ Rel C m' ⟨1, [(0, r)], H1 ++ ancs 0 H0.length⟩ #[v] w'

/-! ### Who calls it -/

theorem AVal.sig {rd rd' : PV → Value → Prop} {m m2 : Map} {H H2 : Heap} {σ : List Nat} (h1 : ∀ p v, rd p v → rd' p v) (hs : ∀ k, k < σ.length → σ.getD k 0 < H2.length ∧ m2 (σ.getD k 0) = m k) {x : AV} {v : Value} (h : AVal rd m H x v)
    (hx : scA σ.length x = true) : AVal rd' m2 H2 (Go.Pv.ren σ x) v := by
  have one : ∀ {x : AV} {v : Value}, AVal rd m H x v → sc1 σ.length x = true → AVal rd' m2 H2 (ren1 σ x) v := by
    intro x v h hsc
    cases h with
    | dead v => exact .dead v
    | p pv v h => exact .p pv v (h1 _ _ h)
    | sl k lo len v hk h =>
      obtain ⟨g1, g2⟩ := hs k (by simpa [sc1] using hsc)
      refine .sl _ lo len v g1 ?_
      unfold SlOk at *
      rw [g2]; exact h
    | ptr k i v hk h =>
      obtain ⟨g1, g2⟩ := hs k (by simpa [sc1] using hsc)
      refine .ptr _ i v g1 ?_
      unfold PtrOk at *
      rw [g2]; exact h
    | agg l vs hl hr => simp [sc1] at hsc
    | tup l vs hl hr => simp [sc1] at hsc
    | cl f l vs hl hr => simp [sc1] at hsc
    | itv r => exact .itv r
    | mptr k v hk h =>
      obtain ⟨g1, g2⟩ := hs k (by simpa [sc1] using hsc)
      refine .mptr _ v g1 ?_
      unfold MptrOk at *
      rw [g2]; exact h
  cases x with
  | agg l =>
    cases h with
    | agg _ vs hl hr =>
      refine .agg _ vs (by simpa using hl) fun c hc => ?_
      rw [List.length_map] at hc
      rw [List.getElem_map]
      exact one (hr c hc) ((List.all_eq_true.1 hx) _ (List.getElem_mem hc))
  | tup l =>
    cases h with
    | tup _ vs hl hr =>
      refine .tup _ vs (by simpa using hl) fun c hc => ?_
      rw [List.length_map] at hc
      rw [List.getElem_map]
      exact one (hr c hc) ((List.all_eq_true.1 hx) _ (List.getElem_mem hc))
  | cl f l =>
    cases h with
    | cl _ _ vs hl hr =>
      refine .cl _ _ vs (by simpa using hl) fun c hc => ?_
      rw [List.length_map] at hc
      rw [List.getElem_map]
      exact one (hr c hc) ((List.all_eq_true.1 hx) _ (List.getElem_mem hc))
  | dead => exact one h hx
  | p pv => exact one h hx
  | sl k lo len => exact one h hx
  | ptr k i => exact one h hx
  | mptr k => exact one h hx
  | itv r => exact one h hx

/-- Blocks put back: those that were lent, in their places; new ones behind. -/
def putM : Heap → List Nat → Heap → Heap
  | H, [], bs => H ++ bs
  | H, _ :: _, [] => H
  | H, k :: ks, b :: bs => putM (hset H k b) ks bs

theorem putM_get : ∀ (ks : List Nat) (bs H : Heap) (k : Nat) (b : Blk), (∀ k ∈ ks, k < H.length) → ks.length ≤ bs.length → (putM H ks bs)[k]? = some b →
    (∃ j : Nat, bs[j]? = some b ∧ (ks ++ List.range' H.length (bs.length - ks.length))[j]? = some k) ∨ (k < H.length ∧ k ∉ ks ∧ H[k]? = some b)
  | [], bs, H, k, b, _, _, h => by
    simp only [putM] at h
    by_cases hk : k < H.length
    · exact .inr ⟨hk, by simp, by rwa [List.getElem?_append_left hk] at h⟩
    · rw [List.getElem?_append_right (by omega)] at h
      · refine .inl ⟨k - H.length, h, ?_⟩
        have := (List.getElem?_eq_some_iff.1 h).1
        simp only [List.nil_append, List.length_nil, Nat.sub_zero]
        rw [List.getElem?_range' this]
        simp; omega
  | k0 :: ks, [], H, k, b, _, hl, _ => by simp at hl
  | k0 :: ks, b0 :: bs, H, k, b, hk, hl, h => by
    simp only [putM] at h
    have h0 := hk k0 (by simp)
    rcases putM_get ks bs (hset H k0 b0) k b (fun k hk' => by rw [hset_length]; exact hk k (by simp [hk'])) (by simpa using hl) h with ⟨j, h1, h2⟩ | ⟨h1, h2, h3⟩
    · rw [hset_length] at h2
      exact .inl ⟨j + 1, by simpa using h1, by simpa using h2⟩
    · rw [hset_get] at h3
      rw [hset_length] at h1
      by_cases e : k = k0
      · subst e
        rw [if_pos ⟨rfl, h0⟩] at h3
        exact .inl ⟨0, by simpa using h3, by simp⟩
      · rw [if_neg (by simp [e])] at h3
        exact .inr ⟨h1, by simp [e, h2], h3⟩

theorem putM_length : ∀ (ks : List Nat) (bs H : Heap), ks.length ≤ bs.length → (putM H ks bs).length = H.length + (bs.length - ks.length)
  | [], bs, H, _ => by simp [putM]
  | k0 :: ks, [], H, hl => by simp at hl
  | k0 :: ks, b0 :: bs, H, hl => by
    simp only [putM]
    rw [putM_length ks bs _ (by simpa using hl), hset_length]; simp

/-- Maps stay maps. -/
def mpKeep : Heap → Heap → Bool
  | .mp _ _ _ :: r, .mp _ _ _ :: t => mpKeep r t
  | .mp _ _ _ :: _, _ => false
  | _ :: r, _ :: t => mpKeep r t
  | [], _ => true
  | _ :: _, [] => false

theorem mpKeep_get : ∀ {H0 H1 : Heap}, mpKeep H0 H1 = true → ∀ (j : Nat) (kk : IntKind) (d : Int → Bool) (v : Int → PV), H0[j]? = some (.mp kk d v) → ∃ kk' d' v', H1[j]? = some (.mp kk' d' v')
  | [], _, _, j, _, _, _, h => by simp at h
  | b :: r, [], hm, _, _, _, _, _ => by cases b <;> simp [mpKeep] at hm
  | b :: r, b' :: t, hm, 0, kk, d, v, h => by
    simp at h; subst h
    cases b' <;> simp [mpKeep] at hm
    exact ⟨_, _, _, rfl⟩
  | b :: r, b' :: t, hm, j + 1, kk, d, v, h => by
    have hm2 : mpKeep r t = true := by cases b <;> cases b' <;> simp [mpKeep] at hm <;> exact hm
    simpa using mpKeep_get hm2 j kk d v (by simpa using h)

def scM (av : AV) (H0 H1 : Heap) : Bool :=
  scA H1.length av && H1.all (fun | .own c => c.all (scA H1.length) | .anc _ _ => false | _ => true) && decide (H0.length ≤ H1.length) && mpKeep H0 H1 && H0.all notAnc

/-- The frame of who is called with blocks that are lent. -/
def subC (C : Ctx) (m : Map) (H : Heap) (ks : List Nat) (H0 : Heap) (w : World) : Ctx :=
  ⟨fun b => OK C m H w b, fun b => w.heap.size ≤ b ∨ ∃ (j : Nat) (b0 : Blk) (l : Loc), H0[j]? = some b0 ∧ b0.wr = true ∧ mren m ks j = some l ∧ l.g = b, w, mren m ks⟩

theorem Rel.wrLt (R : Rel C m s tmps w) {k : Nat} {b : Blk} (hb : s.H[k]? = some b) (hw : b.wr = true) {l : Loc} (hl : m k = some l) : C.B l.g ∧ l.g < w.heap.size := by
  cases b with
  | own c =>
    rcases R.blk k c hb with ⟨_, hn⟩ | ⟨l', cur, e, a1, a2, a3, _⟩
    · rw [hl] at hn; cases hn
    · rw [hl] at a1; cases a1
      exact ⟨a2, (Array.getElem?_eq_some_iff.1 a3).1⟩
  | mp kk d v =>
    obtain ⟨l', ar, clk, vs, a1, a2, a3, _⟩ := R.mp.1 k kk d v hb
    rw [hl] at a1; cases a1
    exact ⟨a2, (Array.getElem?_eq_some_iff.1 a3).1⟩
  | _ => cases hw

theorem Rel.inj2 (R : Rel C m s tmps w) {k k' : Nat} {b b' : Blk} (hb : s.H[k]? = some b) (hw : b.wr = true) (hb' : s.H[k']? = some b') (hw' : b'.wr = true) {l l' : Loc} (hl : m k = some l) (hl' : m k' = some l') (e : l.g = l'.g) : k = k' := by
  cases b with
  | own c =>
    cases b' with
    | own c' => exact R.inj k k' c c' l l' hb hb' hl hl' e
    | mp kk d v => exact absurd e ((R.mpOK hb' hl').2.2 k c l hb hl)
    | _ => cases hw'
  | mp kk d v =>
    cases b' with
    | own c' => exact absurd e.symm ((R.mpOK hb hl).2.2 k' c' l' hb' hl')
    | mp kk' d' v' => exact R.mp.2.1 _ _ _ _ _ _ _ _ _ _ hb hb' hl hl' e
    | _ => cases hw'
  | _ => cases hw

theorem LeH.wr {π : List Nat} {H H1 : Heap} (h3 : LeH π H π H1) {j : Nat} {b0 : Blk} (h : H1[j]? = some b0) (hw : b0.wr = true) : ∃ k' b, π[j]? = some k' ∧ H[k']? = some b ∧ b.wr = true ∧ ((∃ c, b0 = .own c) → ∃ c, b = .own c) ∧ ((∃ kk d v, b0 = .mp kk d v) → ∃ kk d v, b = .mp kk d v) := by
  obtain ⟨g1, g2⟩ := h3.get
  cases b0 with
  | own c =>
    obtain ⟨k', d, a1, a2, _⟩ := LeH.own g2 j c h
    exact ⟨k', _, a1, a2, rfl, (fun _ => ⟨_, rfl⟩), fun ⟨_, _, _, h⟩ => by cases h⟩
  | mp kk d v =>
    obtain ⟨k', a, b⟩ := g2 j _ h
    exact ⟨k', _, a, hget_some b (by simp), rfl, (fun ⟨_, h⟩ => by cases h), fun _ => ⟨_, _, _, rfl⟩⟩
  | _ => cases hw

theorem Rel.joinM (R : Rel C m s tmps w) {ks : List Nat} {H0 H1 : Heap} {r : AV} {w' : World} {v : Value} {m' : Map} (hle : LeH ks s.H ks H0) (hks : ∀ k ∈ ks, k < s.H.length) (R1 : Rel (subC C m s.H ks H0 w) m' ⟨1, [(0, r)], H1 ++ ancs 0 H0.length⟩ #[v] w') (hsc : scM r H0 H1 = true) :
    ∃ m2, Rel C m2 { s with H := putM s.H ks (H1.map (Blk.ren (ks ++ List.range' s.H.length (H1.length - ks.length)))) } tmps w' ∧
      AVal (Reads (OK C m2 (putM s.H ks (H1.map (Blk.ren (ks ++ List.range' s.H.length (H1.length - ks.length))))) w') w') m2 (putM s.H ks (H1.map (Blk.ren (ks ++ List.range' s.H.length (H1.length - ks.length))))) (Go.Pv.ren (ks ++ List.range' s.H.length (H1.length - ks.length)) r) v := by
  obtain ⟨g1, g2⟩ := hle.get
  unfold scM at hsc
  rw [Bool.and_eq_true, Bool.and_eq_true, Bool.and_eq_true, Bool.and_eq_true, decide_eq_true_eq] at hsc
  obtain ⟨⟨⟨⟨s1, s2⟩, s3⟩, s4⟩, s5⟩ := hsc
  have hn : ks.length ≤ H1.length := by omega
  generalize hσe : ks ++ List.range' s.H.length (H1.length - ks.length) = σ
  have hσlen : σ.length = H1.length := by rw [← hσe]; simp; omega
  generalize hH2 : putM s.H ks (H1.map (Blk.ren σ)) = H2
  have hlen2 : H2.length = s.H.length + (H1.length - ks.length) := by rw [← hH2, putM_length _ _ _ (by simpa using hn)]; simp
  -- where the callee's blocks lie
  have hm1 : ∀ j, j < H0.length → m' j = mren m ks j := fun j hj => by
    have h : (H1 ++ ancs 0 H0.length)[H1.length + j]? = some (.anc j j) := by
      rw [List.getElem?_append_right (by omega), Nat.add_sub_cancel_left, ancs_at _ _ _ hj, Nat.zero_add]
    exact (R1.mp.2.2 _ _ _ h).2
  obtain ⟨m2, hm2⟩ : ∃ m2 : Map, m2 = fun k => if k < s.H.length then m k else m' (ks.length + (k - s.H.length)) := ⟨_, rfl⟩
  have hmo : ∀ k, k < s.H.length → m2 k = m k := fun k h => by rw [hm2]; simp [h]
  have hσ : ∀ (j k : Nat), σ[j]? = some k → k < H2.length ∧ m2 k = m' j := by
    intro j k h
    rw [← hσe] at h
    by_cases hj : j < ks.length
    · rw [List.getElem?_append_left hj] at h
      have hk := hks k (List.mem_of_getElem? h)
      refine ⟨by omega, ?_⟩
      rw [hmo k hk, hm1 j (by omega)]
      simp only [mren, h, Option.bind_some]
    · rw [List.getElem?_append_right (by omega)] at h
      have hj2 : j - ks.length < H1.length - ks.length := by
        have := (List.getElem?_eq_some_iff.1 h).1
        simpa using this
      rw [List.getElem?_range' hj2] at h
      simp only [Option.some.injEq, Nat.one_mul] at h
      subst h
      refine ⟨by omega, ?_⟩
      rw [hm2]
      simp only
      rw [if_neg (by omega)]
      congr 1
      omega
  have hσ2 : ∀ k, k < σ.length → σ.getD k 0 < H2.length ∧ m2 (σ.getD k 0) = m' k := fun k hk => by
    have : σ[k]? = some (σ.getD k 0) := by simp [List.getD, List.getElem?_eq_getElem hk]
    exact hσ k _ this
  have hget : ∀ (k : Nat) (b : Blk), H2[k]? = some b → (∃ (j : Nat) (b' : Blk), H1[j]? = some b' ∧ b = b'.ren σ ∧ σ[j]? = some k) ∨ (k < s.H.length ∧ k ∉ ks ∧ s.H[k]? = some b) := by
    intro k b h
    rw [← hH2] at h
    rcases putM_get ks _ s.H k b hks (by simpa using hn) h with ⟨j, h1, h2⟩ | h
    · rw [List.length_map, hσe] at h2
      rw [List.getElem?_map] at h1
      cases e : H1[j]? with
      | none => rw [e] at h1; cases h1
      | some b' => rw [e] at h1; exact .inl ⟨j, b', e, (Option.some.inj h1).symm, h2⟩
    · exact .inr h
  have hHc : ∀ (j : Nat) (b : Blk), H1[j]? = some b → (H1 ++ ancs 0 H0.length)[j]? = some b := fun j b h => by
    rw [List.getElem?_append_left (List.getElem?_eq_some_iff.1 h).1]; exact h
  have hown : ∀ (k : Nat) (c : List AV), H2[k]? = some (.own c) → (∃ (j : Nat) (c' : List AV), H1[j]? = some (.own c') ∧ c = c'.map (Go.Pv.ren σ) ∧ σ[j]? = some k) ∨ (k < s.H.length ∧ k ∉ ks ∧ s.H[k]? = some (.own c)) := by
    intro k c h
    rcases hget k _ h with ⟨j, b', h1, h2, h3⟩ | h
    · cases b' with
      | own c' => simp only [Blk.ren, Blk.own.injEq] at h2; exact .inl ⟨j, c', h1, h2, h3⟩
      | _ => cases h2
    · exact .inr h
  have hmps : ∀ (k : Nat) (kk : IntKind) (d : Int → Bool) (vv : Int → PV), H2[k]? = some (.mp kk d vv) → (∃ j : Nat, H1[j]? = some (.mp kk d vv) ∧ σ[j]? = some k) ∨ (k < s.H.length ∧ k ∉ ks ∧ s.H[k]? = some (.mp kk d vv)) := by
    intro k kk d vv h
    rcases hget k _ h with ⟨j, b', h1, h2, h3⟩ | h
    · cases b' with
      | mp kk' d' v' => simp only [Blk.ren, Blk.mp.injEq] at h2; obtain ⟨rfl, rfl, rfl⟩ := h2; exact .inl ⟨j, h1, h3⟩
      | _ => cases h2
    · exact .inr h
  have hfro : ∀ (k : Nat) (c : List PV), H2[k]? = some (.fro c) → (∃ j : Nat, H1[j]? = some (.fro c) ∧ σ[j]? = some k) ∨ (k < s.H.length ∧ k ∉ ks ∧ s.H[k]? = some (.fro c)) := by
    intro k c h
    rcases hget k _ h with ⟨j, b', h1, h2, h3⟩ | h
    · cases b' with
      | fro c' => simp only [Blk.ren, Blk.fro.injEq] at h2; subst h2; exact .inl ⟨j, h1, h3⟩
      | _ => cases h2
    · exact .inr h
  have lent : ∀ (j : Nat) (b0 : Blk) (l : Loc), H0[j]? = some b0 → b0.wr = true → mren m ks j = some l → ∃ k' b, k' ∈ ks ∧ s.H[k']? = some b ∧ b.wr = true ∧ m k' = some l ∧ ((∃ c, b0 = .own c) → ∃ c, b = .own c) ∧ ((∃ kk d v, b0 = .mp kk d v) → ∃ kk d v, b = .mp kk d v) := by
    intro j b0 l h hw hl
    obtain ⟨k', b, a1, a2, a3, a4, a5⟩ := hle.wr h hw
    simp only [mren, a1, Option.bind_some] at hl
    exact ⟨k', b, List.mem_of_getElem? a1, a2, a3, hl, a4, a5⟩
  have hB1 : ∀ b, (subC C m s.H ks H0 w).B b → C.B b := by
    intro b hb
    rcases hb with hb | ⟨j, b0, l, h1, h2, h3, rfl⟩
    · exact R.base b hb
    · obtain ⟨k', b, _, a2, a3, a4, _⟩ := lent j b0 l h1 h2 h3
      exact (R.wrLt a2 a3 a4).1
  have hBx : ∀ (k : Nat) (b : Blk) (l : Loc), k ∉ ks → s.H[k]? = some b → b.wr = true → m k = some l → ¬ (subC C m s.H ks H0 w).B l.g := by
    intro k b l hk hb hw hl hB
    rcases hB with hB | ⟨j, b0, l0, h1, h2, h3, h4⟩
    · have := (R.wrLt hb hw hl).2
      omega
    · obtain ⟨k', b', a1, a2, a3, a4, _⟩ := lent j b0 l0 h1 h2 h3
      have := R.inj2 hb hw a2 a3 hl a4 h4.symm
      subst this
      exact hk a1
  have hcell : ∀ b o x, OK C m s.H w b → w.cell? ⟨b, o, none⟩ = some x → w'.cell? ⟨b, o, none⟩ = some x := by
    intro b o x hb hc
    by_cases hB : (subC C m s.H ks H0 w).B b
    · exfalso
      rcases hB with hB | ⟨j, b0, l0, h1, h2, h3, h4⟩
      · have := hb.2.1; omega
      · obtain ⟨k', b', a1, a2, a3, a4, _⟩ := lent j b0 l0 h1 h2 h3
        cases b' with
        | own c => exact hb.2.2 k' c l0 a2 a4 h4
        | mp kk d vv =>
          obtain ⟨l', ar, clk, vs, c1, c2, c3, _⟩ := R.mp.1 k' kk d vv a2
          rw [a4] at c1; cases c1
          rw [h4] at c3
          unfold World.cell? at hc
          simp only [c3] at hc
          first | cases hc | simp at hc
        | _ => cases a3
    · rw [World.cell?_of_block (w := w) (R1.below.block b hB)]; exact hc
  have hOK : ∀ b, OK (subC C m s.H ks H0 w) m' (H1 ++ ancs 0 H0.length) w' b → OK C m2 H2 w' b := by
    intro b hb
    refine ⟨?_, hb.2.1, fun k c l h hl => ?_⟩
    · rcases hb.1 with h | h
      · exact h.1
      · exact .inr (hB1 b h)
    · rcases hown k c h with ⟨j, c', h1, _, h3⟩ | ⟨h1, h2, h3⟩
      · rw [(hσ j k h3).2] at hl
        exact hb.2.2 j c' l (hHc _ _ h1) hl
      · rw [hmo k h1] at hl
        rcases hb.1 with h' | h'
        · exact h'.2.2 k c l h3 hl
        · intro e
          exact hBx k _ l h2 h3 rfl hl (by rw [e]; exact h')
  have ho1 : ∀ b, OK C m s.H w b → OK C m2 H2 w' b := by
    intro b hb
    refine ⟨hb.1, Nat.lt_of_lt_of_le hb.2.1 R1.below.size, fun k c l h hl e => ?_⟩
    rcases hown k c h with ⟨j, c', h1, _, h3⟩ | ⟨h1, h2, h3⟩
    · rw [(hσ j k h3).2] at hl
      rcases (R1.wrLt (hHc _ _ h1) rfl hl).1 with hB | ⟨j0, b0, l0, a1, a2, a3, a4⟩
      · have := hb.2.1; omega
      · obtain ⟨k', b', d1, d2, d3, d4, d5, d6⟩ := lent j0 b0 l0 a1 a2 a3
        cases b0 with
        | own c0 =>
          obtain ⟨c1, rfl⟩ := d5 ⟨_, rfl⟩
          exact hb.2.2 k' c1 l0 d2 d4 (by rw [a4, e])
        | mp kk d vv =>
          obtain ⟨kk', d', v', f1⟩ := mpKeep_get s4 j0 kk d vv a1
          have hj0 : j0 < H0.length := (List.getElem?_eq_some_iff.1 a1).1
          have f2 : m' j0 = some l0 := by rw [hm1 j0 hj0]; exact a3
          exact (R1.mpOK (hHc _ _ f1) f2).2.2 j c' l (hHc _ _ h1) hl a4.symm
        | _ => cases a2
    · rw [hmo k h1] at hl
      exact hb.2.2 k c l h3 hl e
  have rd1 : ∀ p x, Reads (OK C m s.H w) w p x → Reads (OK C m2 H2 w') w' p x := fun p x h => h.extc ho1 hcell
  have rd2 : ∀ p x, Reads (OK (subC C m s.H ks H0 w) m' (H1 ++ ancs 0 H0.length) w') w' p x → Reads (OK C m2 H2 w') w' p x := fun p x h => h.mono hOK
  have hlen3 : s.H.length ≤ H2.length := by omega
  have sall : ∀ (j : Nat) (b : Blk), H1[j]? = some b → (match b with | .own c => c.all (scA H1.length) | .anc _ _ => false | _ => true) = true := fun j b h => by
    have := (List.all_eq_true.1 s2) _ (List.mem_of_getElem? h)
    cases b <;> exact this
  refine ⟨m2, ⟨R.laid.ext rd1, R.below.trans ⟨R1.below.os, R1.below.tape, R1.below.output, R1.below.size, fun k hk => R1.below.block k fun h => hk (hB1 k h), R1.below.dr⟩, fun b h => R.base b (Nat.le_trans R1.below.size h), R.size, ?_, ?_, ?_, fun t => ?_, ?_, ?_, ?_⟩, ?_⟩
  · intro k k' c c' l l' h1 h2 h3 h4 h5
    rcases hown k c h1 with ⟨j, d, a1, _, a3⟩ | ⟨a1, a2, a3⟩ <;> rcases hown k' c' h2 with ⟨j', d', b1, _, b3⟩ | ⟨b1, b2, b3⟩
    · rw [(hσ _ _ a3).2] at h3; rw [(hσ _ _ b3).2] at h4
      have := R1.inj j j' d d' l l' (hHc _ _ a1) (hHc _ _ b1) h3 h4 h5
      subst this
      rw [a3] at b3
      exact Option.some.inj b3
    · rw [(hσ _ _ a3).2] at h3; rw [hmo _ b1] at h4
      exact absurd (by rw [← h5]; exact (R1.wrLt (hHc _ _ a1) rfl h3).1) (hBx k' _ l' b2 b3 rfl h4)
    · rw [hmo _ a1] at h3; rw [(hσ _ _ b3).2] at h4
      exact absurd (by rw [h5]; exact (R1.wrLt (hHc _ _ b1) rfl h4).1) (hBx k _ l a2 a3 rfl h3)
    · rw [hmo _ a1] at h3; rw [hmo _ b1] at h4
      exact R.inj k k' c c' l l' a3 b3 h3 h4 h5
  · intro k c h
    rcases hown k c h with ⟨j, c', a1, rfl, a3⟩ | ⟨a1, a2, a3⟩
    · rcases R1.blk j c' (hHc _ _ a1) with ⟨e, hn⟩ | ⟨l, cur, e, b1, b2, b3, b4, b5, b6, b7⟩
      · exact .inl ⟨by rw [e]; rfl, by rw [(hσ _ _ a3).2]; exact hn⟩
      · refine .inr ⟨l, cur, e, by rw [(hσ _ _ a3).2]; exact b1, hB1 _ b2, b3, b4, b5, by simpa using b6, fun i hi => ?_⟩
        rw [List.length_map] at hi
        rw [List.getElem_map]
        have hs : scA σ.length c'[i] = true := by
          rw [hσlen]
          exact (List.all_eq_true.1 (sall j _ a1)) _ (List.getElem_mem hi)
        exact (b7 i hi).sig rd2 hσ2 hs
    · refine (R.blk k c a3).ext rd1 hlen3 hmo (hmo k a1) fun l hl => R1.below.block _ (hBx k _ l a2 a3 rfl hl)
  · intro k c h
    rcases hfro k c h with ⟨j, a1, a3⟩ | ⟨a1, a2, a3⟩
    · rcases R1.fro j c (hHc _ _ a1) with ⟨e1, e2⟩ | ⟨l, vs, e1, e2, e3, e4⟩
      · exact .inl ⟨e1, by rw [(hσ _ _ a3).2]; exact e2⟩
      · exact .inr ⟨l, vs, by rw [(hσ _ _ a3).2]; exact e1, hOK _ e2, e3, fun i hi => ⟨(e4 i hi).1, rd2 _ _ (e4 i hi).2⟩⟩
    · rcases R.fro k c a3 with ⟨e1, e2⟩ | ⟨l, vs, e1, e2, e3, e4⟩
      · exact .inl ⟨e1, by rw [hmo k a1]; exact e2⟩
      · exact .inr ⟨l, vs, by rw [hmo k a1]; exact e1, ho1 _ e2, e3, fun i hi => ⟨hcell _ _ _ e2 (e4 i hi).1, rd1 _ _ (e4 i hi).2⟩⟩
  · exact (R.slot t).ext rd1 hlen3 hmo
  · intro k kk d vv h
    rcases hmps k kk d vv h with ⟨j, a1, a3⟩ | ⟨a1, a2, a3⟩
    · obtain ⟨l, ar, clk, vs, b1, b2, b3, b4, b5, b6, b7⟩ := R1.mp.1 j kk d vv (hHc _ _ a1)
      exact ⟨l, ar, clk, vs, by rw [(hσ _ _ a3).2]; exact b1, hB1 _ b2, b3, b4, b5, b6, fun z hz => rd2 _ _ (b7 z hz)⟩
    · obtain ⟨l, ar, clk, vs, b1, b2, b3, b4, b5, b6, b7⟩ := R.mp.1 k kk d vv a3
      exact ⟨l, ar, clk, vs, by rw [hmo k a1]; exact b1, b2, by rw [R1.below.block _ (hBx k _ l a2 a3 rfl b1)]; exact b3, b4, b5, b6, fun z hz => rd1 _ _ (b7 z hz)⟩
  · intro k k' kk d vv kk' d' v' l l' h1 h2 h3 h4 h5
    rcases hmps k kk d vv h1 with ⟨j, a1, a3⟩ | ⟨a1, a2, a3⟩ <;> rcases hmps k' kk' d' v' h2 with ⟨j', b1, b3⟩ | ⟨b1, b2, b3⟩
    · rw [(hσ _ _ a3).2] at h3; rw [(hσ _ _ b3).2] at h4
      have := R1.mp.2.1 _ _ _ _ _ _ _ _ _ _ (hHc _ _ a1) (hHc _ _ b1) h3 h4 h5
      subst this
      rw [a3] at b3
      exact Option.some.inj b3
    · rw [(hσ _ _ a3).2] at h3; rw [hmo _ b1] at h4
      exact absurd (by rw [← h5]; exact (R1.wrLt (hHc _ _ a1) rfl h3).1) (hBx k' _ l' b2 b3 rfl h4)
    · rw [hmo _ a1] at h3; rw [(hσ _ _ b3).2] at h4
      exact absurd (by rw [h5]; exact (R1.wrLt (hHc _ _ b1) rfl h4).1) (hBx k _ l a2 a3 rfl h3)
    · rw [hmo _ a1] at h3; rw [hmo _ b1] at h4
      exact R.mp.2.1 _ _ _ _ _ _ _ _ _ _ a3 b3 h3 h4 h5
  · intro k i j h
    rcases hget k _ h with ⟨j', b', h1, h2, _⟩ | ⟨a1, a2, a3⟩
    · have := sall j' b' h1
      cases b' with
      | anc _ _ => cases this
      | _ => cases h2
    · obtain ⟨c1, c2⟩ := R.mp.2.2 k i j a3
      exact ⟨by simp only; omega, by rw [hmo j c1]; exact c2⟩
  · have := R1.slot 0
    exact AVal.sig rd2 hσ2 this (by rw [hσlen]; exact s1)

/-! ### The call -/

def argM1 (H : Heap) (ks : List Nat) (x a : AV) : Prop :=
  match a with
  | .p pv => (match peekG H x with | some (p, pv', true) => p ∧ pv' = pv | _ => False)
  | a => x = Go.Pv.ren ks a ∧ scA ks.length a = true

def argsM (H : Heap) (ks : List Nat) : List AV → List AV → Prop
  | x :: xs, a :: avs => argM1 H ks x a ∧ argsM H ks xs avs
  | [], [] => True
  | _, _ => False

theorem argsM_val (R : Rel C m s tmps w) {rd' : PV → Value → Prop} {ks : List Nat} {H0 : Heap} (h1 : ∀ p v, Reads (OK C m s.H w) w p v → rd' p v) (hl : H0.length = ks.length) : ∀ (X avs : List AV) (f : Nat → Value), argsM s.H ks X avs → (∀ i (h : i < X.length), AVal (Reads (OK C m s.H w) w) m s.H X[i] (f i)) →
    avs.length = X.length ∧ ∀ i (h : i < avs.length), AVal rd' (mren m ks) H0 avs[i] (f i)
  | [], [], f, _, _ => ⟨rfl, fun i h => by simp at h⟩
  | x :: xs, a :: avs, f, h, hv => by
    obtain ⟨k1, k2⟩ := argsM_val R h1 hl xs avs (fun i => f (i + 1)) h.2 fun i hi => by have := hv (i + 1) (by simp; omega); rwa [List.getElem_cons_succ] at this
    refine ⟨by simp [k1], fun i hi => ?_⟩
    cases i with
    | succ i => simpa using k2 i (by simpa using hi)
    | zero =>
      have hx := hv 0 (by simp)
      simp only [List.getElem_cons_zero] at hx ⊢
      have h0 := h.1
      unfold argM1 at h0
      split at h0
      · rename_i pv
        split at h0
        · rename_i p pv' hp
          obtain ⟨g1, rfl⟩ := h0
          exact .p _ _ (h1 _ _ ((peekG_val R hx hp g1).2 rfl))
        · exact h0.elim
      · obtain ⟨rfl, hsc⟩ := h0
        exact hx.unren h1 hl hsc
  | [], _ :: _, _, h, _ => h.elim
  | _ :: _, [], _, h, _ => h.elim

theorem call_doesM {o : Oper} {fo : Operand} {args : Array Operand} {ts : Array TypeId} (ho : o.op = .call { callee := .value fo, args := args, argTypes := ts }) {g : FuncId} {cap : List PV} (hfo : s.ev fo = .p (.fn g cap)) {ks : List Nat} {avs : List AV} {H0 H1 : Heap} {r : AV}
    (hc : FnM P g avs H0 r H1) (hargs : argsM s.H ks (args.toList.map s.ev ++ cap.map .p) avs) (hle : LeH ks s.H ks H0) (hnd : ks.Nodup) (hks : ks.all (fun k => decide (k < s.H.length)) = true) (hsc : scM r H0 H1 = true) :
    DoesW P o s (Go.Pv.ren (ks ++ List.range' s.H.length (H1.length - ks.length)) r) (putM s.H ks (H1.map (Blk.ren (ks ++ List.range' s.H.length (H1.length - ks.length))))) := by
  intro C m a w K Q R hK
  have hks' : ∀ k ∈ ks, k < s.H.length := fun k hk => by simpa using (List.all_eq_true.1 hks) k hk
  have hfv := R.ev fo
  rw [hfo] at hfv
  generalize hfe : a.eval fo = fv at hfv
  have hfv := hfv.p_inv
  cases hfv with
  | fn _ _ vs hcl hcr =>
    obtain ⟨⟨fn, hfn, hnm, hbd⟩, hcalls⟩ := hc
    have hrun : (execOp a.eval o).run P w = .ok (.enter g (args.map a.eval ++ vs)) w := by
      have hnm' : ¬ fn.name = "runtime.NumGoroutine" := by simpa using hnm
      have hbd' : ¬ fn.body = none := by intro e; rw [e] at hbd; simp at hbd
      simp [execOp, ho, resolve, hfe, Deferred.ofValue, invoke, callFunc, hfn, hnm', hbd']
    unfold Oper.wp
    rw [hrun]
    simp only [Oper.upon]
    obtain ⟨g1, g2⟩ := hle.get
    have ho1 : ∀ b, OK C m s.H w b → OK (subC C m s.H ks H0 w) (mren m ks) H0 w b := by
      refine fun b h => ⟨.inl h, h.2.1, fun k c l hk hl => ?_⟩
      obtain ⟨k', d, a1, a2, _⟩ := LeH.own g2 k c hk
      simp only [mren, a1, Option.bind_some] at hl
      exact h.2.2 k' _ l a2 hl
    obtain ⟨e1, e2⟩ := argsM_val R (rd' := Reads (OK (subC C m s.H ks H0 w) (mren m ks) H0 w) w) (H0 := H0) (fun p v h => h.mono ho1) g1.symm _ avs (fun i => (args.map a.eval ++ vs).getD i undef) hargs fun i hi => by
      simp only [List.length_append, List.length_map, Array.length_toList] at hi
      by_cases hip : i < args.size
      · rw [List.getElem_append_left (by simpa using hip)]
        simp only [Array.getD_eq_getD_getElem?]
        rw [Array.getElem?_append_left (by simpa using hip)]
        have := R.ev args[i]
        simpa [Array.getElem?_eq_getElem hip] using this
      · rw [List.getElem_append_right (by simp; omega)]
        simp only [Array.getD_eq_getD_getElem?]
        rw [Array.getElem?_append_right (by simp; omega)]
        simp only [List.getElem_map, List.length_map, Array.length_toList, Array.size_map]
        have := hcr (i - args.size) (by omega)
        rw [Array.getD_eq_getD_getElem?] at this
        exact .p _ _ this
    have hsz : (args.map a.eval ++ vs).size = avs.length := by
      rw [e1]; simp; omega
    have s5 : H0.all notAnc = true := by
      unfold scM at hsc
      rw [Bool.and_eq_true] at hsc
      exact hsc.2
    have R0 : Rel (subC C m s.H ks H0 w) (mren m ks) ⟨avs.length, entA 0 avs, H0⟩ (args.map a.eval ++ vs) w := by
      refine R.weakenC (s1 := ⟨avs.length, entA 0 avs, H0⟩) hsz hnd hle ho1 (BelowP.refl _ _) (fun b h => .inl h) (fun k b l h hw hl _ => .inr ⟨k, b, l, h, hw, hl, rfl⟩) (fun k i j h => ?_) fun t => ?_
      · exact absurd rfl (notAnc_spec ((List.all_eq_true.1 s5) _ (List.mem_of_getElem? h)) i j)
      · unfold St.get
        simp only
        rw [entA_lk, if_pos (Nat.zero_le _), Nat.sub_zero]
        by_cases ht : t < avs.length
        · have := e2 t ht
          simpa [List.getD, List.getElem?_eq_getElem ht] using this
        · rw [List.getD_eq_getElem?_getD, List.getElem?_eq_none (by omega)]
          exact .dead _
    have R0' := R0.addAnc (n := H0.length) (Nat.le_refl _) fun i _ => rfl
    refine (hcalls _ _ w _ R0').mono fun e w' ⟨v, m', he, R1⟩ => ?_
    subst he
    obtain ⟨m2, R2, hv⟩ := R.joinM hle hks' R1 hsc
    exact hK v m2 w' R2 hv

/-- THE WORD OF THE WALK: a call that is lent blocks. -/
theorem runs_callM {all : Array Oper} {rest : List Oper} {K : St → Prop} {dst : Option Tmp} {ty : TypeId} {pos : String} {aft : Array Edge} {gd : Option (Nat × Bool)} {fo : Operand} {args : Array Operand} {ts : Array TypeId} {g : FuncId} {avs : List AV} {H0 H1 : Heap} {r : AV} (ks : List Nat)
    (hc : FnM P g avs H0 r H1) {cap : List PV} (hfo : s.ev fo = .p (.fn g cap)) (hg : guardA all s { dst := dst, op := .call { callee := .value fo, args := args, argTypes := ts }, type := ty, pos := pos, after := aft, guard := gd } = some true)
    (hargs : argsM s.H ks (args.toList.map s.ev ++ cap.map .p) avs) (hle : LeH ks s.H ks H0) (hnd : ks.Nodup) (hks : ks.all (fun k => decide (k < s.H.length)) = true) (hsc : scM r H0 H1 = true) (hd : dstOk s dst)
    (h : Runs P false all rest K (({ s with H := putM s.H ks (H1.map (Blk.ren (ks ++ List.range' s.H.length (H1.length - ks.length)))) } : St).put dst (Go.Pv.ren (ks ++ List.range' s.H.length (H1.length - ks.length)) r))) :
    Runs P false all ({ dst := dst, op := .call { callee := .value fo, args := args, argTypes := ts }, type := ty, pos := pos, after := aft, guard := gd } :: rest) K s := by
  obtain ⟨s', hr, hK⟩ := h
  exact ⟨s', .cons (.op s _ _ hg (dstOk_spec hd) (call_doesM rfl hfo hc hargs hle hnd hks hsc) fun h => by cases h) hr, hK⟩

/-! ### How much stands in a map -/

open Classical in
noncomputable def mpLen (d : Int → Bool) : Nat := if h : ∃ l : List Int, l.Nodup ∧ ∀ z, z ∈ l ↔ d z = true then h.choose.length else 0

def keyInt : Value → Int
  | .int _ z => z
  | _ => 0

end

end Go.Pv

/-
  Steps of a region beside those that are evaluated: literal rows as one's own, entries of literal maps. Conditions: none; a library text.
-/
set_option linter.all false

namespace Go.Pv
open Go.RowKit
section
variable {P : Program} {T : TypeId → Option TI} {s : St}
section
variable {C : Ctx} {m : Map} {tmps : Array Value} {w : World}
end
end
end Go.Pv

/-
  Walks: the law SeriesComposes. Conditions: none.
-/
set_option linter.all false

namespace Go.Proofs.YtjbfkdaodfdpcaaDoor
open Go.Pv

/-- The numbers, each put where it stands. -/
def ins (z : Int) (l : List Int) : List Int := l.takeWhile (· < z) ++ (z :: l.dropWhile (· < z))
def fac (n : Nat) (T : Nat → Nat → Bool) (k : Nat) : Int := (((thl n (T k)).length / (thl n (T (k + 1))).length : Nat) : Int)
def fos (n : Nat) (T : Nat → Nat → Bool) : Nat → List Int
  | 0 => []
  | k + 1 => ins (fac n T k) (fos n T k)
section
variable {n e : Nat} {m : List Int}

/-- Things, conjugated by the things of a list. -/
def cjs (n : Nat) (f : Nat → Nat → Nat) (e x : Nat) (l : List Int) : List Int := l.map fun z => ((cjr n f e x z.toNat : Nat) : Int)
end
end Go.Proofs.YtjbfkdaodfdpcaaDoor

/-
  The library's sort by a comparison, over a row of the caller's own: what it leaves. Conditions: none; a library text.
-/
set_option linter.all false
namespace Go.Pv
open Go.RowKit

section
variable {P : Program} {ρ : Go.Shelf.Ren}

end
end Go.Pv

/-
  The library's sort of numbers, over a row of the caller's own: what it leaves. Conditions: none; a library text.
-/
set_option linter.all false
namespace Go.Pv
open Go.RowKit

section
variable {P : Program} {ρ : Go.Shelf.Ren}
def srt (l : List Int) : List Int := l.mergeSort fun x y => decide (x ≤ y)

/-- slices.Sort of numbers: behind it the row holds them in order. -/
theorem sortI_m (L : Go.Proofs.Lays.n189 P ρ) (zs : List Int) (hlen : zs.length < 4611686018427387904) :
    FnM P (ρ.f 189) [.sl 0 0 zs.length] [.own (opl (il zs))] (.p (.tup [])) [.own (opl (il (srt zs)))] := by
  refine ⟨⟨_, L.f189, by kernel_rfl, rfl⟩, fun C m w vals R => ?_⟩
  have hsz : vals.size = 1 := R.size
  have s0 := R.slot 0
  simp only [St.get, entA, lk, BEq.rfl, cond_true] at s0
  generalize hv0 : vals.getD 0 undef = v0 at s0
  have hvals : vals = #[v0] := by
    apply Array.ext
    · simpa using hsz
    · intro i h1 h2
      simp only [Array.getD_eq_getD_getElem?] at hv0
      match i, h2 with
      | 0, _ => rw [Array.getElem?_eq_getElem h1] at hv0; simpa using hv0
  subst hvals
  cases s0 with
  | sl _ _ _ _ hk0 h0 =>
  by_cases hne : zs = []
  · subst hne
    have hcall : ∃ p cp, v0 = .slice p 0 cp := by
      rcases h0 with ⟨_, a, h0⟩ | ⟨l, cp, hm, rfl, hle, hlo⟩
      · exact ⟨a, _, h0⟩
      · exact ⟨_, _, rfl⟩
    obtain ⟨p, cp, rfl⟩ := hcall
    refine (Go.Proofs.Any.slices_Sort_int_none L p cp w).mono fun e2 w2 ⟨he, hw⟩ => ?_
    subst he hw
    rw [show srt ([] : List Int) = [] from by simp [srt]]
    exact ⟨.tuple #[], m, rfl, R.laid, R.below, R.base, rfl, R.inj, R.blk, R.fro, fun t => by
      cases t with
      | zero => exact .p _ _ (.tup [] #[] rfl fun c h => absurd h (by simp))
      | succ t => exact .dead _, R.mp⟩
  have hpos : 0 < zs.length := List.length_pos_iff.2 hne
  rcases h0 with ⟨h0, _⟩ | ⟨l, cp, hm, rfl, hle, hlo⟩
  · omega
  rcases R.blk 0 (opl (il zs)) rfl with ⟨hx, _⟩ | ⟨l', cur, e, hm', hB, hg, hcs, hmx, hol, hcell⟩
  · exact absurd (show zs = [] by simpa [opl, il] using hx) hne
  rw [hm] at hm'; cases hm'
  rw [opl_length, il_length] at hol
  have hblk : l.g < w.heap.size := (Array.getElem?_eq_some_iff.1 hg).1
  have hrd : ∀ j (h : j < zs.length), cur.getD (l.o + j) undef = .int .i64 zs[j] := fun j h => by
    have := hcell j (by rw [opl_length, il_length]; exact h)
    simp only [opl, il, List.getElem_map] at this
    have h2 := this.p_inv
    generalize cur.getD (l.o + j) undef = v at h2 ⊢
    cases h2
    rfl
  have hH : Go.Sort.Holds (Value.int .i64) w l.g (l.o + 0) zs.toArray := fun j hj => by
    have hj' : j < zs.length := by simpa using hj
    have hjc : l.o + j < cur.size := by omega
    refine ⟨?_, ?_⟩
    · rw [getElem!_pos zs.toArray j hj]
      have := hrd j hj'
      simp only [World.cell?, hg, Nat.add_zero]
      simpa [Array.getD_eq_getD_getElem?, Array.getElem?_eq_getElem hjc] using this
    · simp [World.frozen?, hg]
  have hcall := Go.Proofs.Any.slices_Sort_int L l.g (l.o + 0) cp zs w hH hblk hlen
  refine hcall.mono fun e2 w2 ⟨he, n, os, hw⟩ => ?_
  subst he
  refine ⟨.tuple #[], m, rfl, ?_⟩
  have hyl : (srt zs).length = zs.length := (List.mergeSort_perm zs _).length_eq
  have hd' : (zs.mergeSort fun x y => decide (x ≤ y)).toArray.size = zs.length := by simpa using hyl
  have R1 : Rel C m ⟨1, entA 0 [.sl 0 0 zs.length], hset ([.own (opl (il zs))] ++ ancs 0 [Blk.own (opl (il zs))].length) 0 (.own (opl (il (srt zs))))⟩ #[.slice (some ⟨l.g, l.o + 0, none⟩) zs.length cp] (Go.Sort.putRow (Value.int .i64) (Go.Sort.ahead w n) l.g (l.o + 0) (zs.mergeSort fun x y => decide (x ≤ y)).toArray) := by
    refine R.setBlk (a := { tmps := #[.slice (some ⟨l.g, l.o + 0, none⟩) zs.length cp], defers := [] }) (c := opl (il zs)) rfl hm ⟨rfl, rfl, rfl, by simp, fun k hk => ?_, by simp⟩ (fun b hb => ?_) (cur := Go.Sort.putCells (Value.int .i64) (l.o + 0) (zs.mergeSort fun x y => decide (x ≤ y)).toArray cur) (e := e) ?_ (by simp [Go.Sort.putCells, hcs]) (by rw [opl_length, il_length]; omega) fun j hj => ?_
    · simp only [Go.Sort.putRow, Go.Sort.mapBlock, Array.getElem?_modify]
      rw [if_neg (fun e => hk (by rw [← e]; exact hB))]; rfl
    · simp only [Go.Sort.putRow, Go.Sort.mapBlock, Array.getElem?_modify]
      rw [if_neg (Ne.symm hb)]; rfl
    · simp only [Go.Sort.putRow, Go.Sort.mapBlock, Array.getElem?_modify]
      rw [if_pos trivial]
      show Option.map _ (w.heap[l.g]?) = _
      rw [hg]; rfl
    · rw [opl_length, il_length] at hj
      have hjc : l.o + j < cur.size := by omega
      have hjd : j < (zs.mergeSort fun x y => decide (x ≤ y)).toArray.size := by omega
      have e3 : (Go.Sort.putCells (Value.int .i64) (l.o + 0) (zs.mergeSort fun x y => decide (x ≤ y)).toArray cur).getD (l.o + j) undef = .int .i64 ((srt zs)[j]'hj) := by
        simp only [Go.Sort.putCells, Array.getD_eq_getD_getElem?, Array.getElem?_mapIdx, Array.getElem?_eq_getElem hjc, Option.map_some, Option.getD_some]
        rw [if_pos ⟨by omega, by omega⟩, show l.o + j - (l.o + 0) = j by omega, getElem!_pos _ j hjd]
        rfl
      rw [e3]
      have e5 : (opl (il (srt zs)))[j]'(by rw [opl_length, il_length]; exact hj) = .p (.int .i64 ((srt zs)[j]'hj)) := by simp [opl, il]
      rw [e5]
      exact .p _ _ (.int _ _)
  have R2 := R1.later (w' := w2) (by
    rw [hw]
    refine ⟨rfl, rfl, rfl, by simp, fun k hk => ?_, Nat.le_refl _⟩
    exact Go.Sort.heap_grow_old _ _ hk)
  exact ⟨R2.laid, R2.below, R2.base, rfl, R2.inj, R2.blk, R2.fro, fun t => by
    cases t with
    | zero => exact .p _ _ (.tup [] #[] rfl fun c h => absurd h (by simp))
    | succ t => exact .dead _, R2.mp⟩
end
end Go.Pv

/-
  Plain: what the factors of a list of sets are; sorted lists. Conditions: none.
-/
set_option linter.all false
namespace Go.Proofs.YtjbfkdaodfdpcaaDoor

open Go.Pv
theorem srt_perm (l : List Int) : (srt l).Perm l := List.mergeSort_perm _ _
theorem srt_len (l : List Int) : (srt l).length = l.length := (srt_perm l).length_eq
section
variable {n e : Nat} {f : Nat → Nat → Nat}
noncomputable def okR (n : Nat) (f : Nat → Nat → Nat) (e : Nat) (l : List Int) : Bool := @decide (∃ p, l = thl n p ∧ Sub n f e p) (Classical.propDecidable _)
theorem okR_iff {l : List Int} : okR n f e l = true ↔ ∃ p, l = thl n p ∧ Sub n f e p := by unfold okR; exact @decide_eq_true_iff _ (Classical.propDecidable _)
theorem okR_thl (G : Grp n f e) {p : Nat → Bool} : okR n f e (thl n p) = true ↔ Sub n f e p := by
  rw [okR_iff]
  refine ⟨fun ⟨q, h1, h2⟩ => ?_, fun h => ⟨p, rfl, h⟩⟩
  have hpq : ∀ a, a < n → p a = q a := fun a ha => by rw [Bool.eq_iff_iff, ← mem_thl_n ha, ← mem_thl_n ha, h1]
  exact sub_of G (by rw [hpq e G.el]; exact h2.one) fun a b ha hb p1 p2 => by
    rw [hpq _ (G.cl a b ha hb)]
    exact h2.mul a b ha hb (by rwa [← hpq a ha]) (by rwa [← hpq b hb])

/-- The test of a row. -/
def tsl (l : List (List Int)) (i : Nat) : Nat → Bool := tst (l.getD i [])
theorem tst_thlF {p : Nat → Bool} {a : Nat} (ha : a < n) : tst (thl n p) a = p a := by
  unfold tst
  rw [Bool.eq_iff_iff, decide_eq_true_eq, mem_thl_n ha]
theorem thl_tst (p : Nat → Bool) : thl n (tst (thl n p)) = thl n p := thl_congr fun a ha => tst_thlF ha
/-- A row that is in its form. -/
theorem okR_row (G : Grp n f e) {l : List Int} (h : okR n f e l = true) : l = thl n (tst l) ∧ Sub n f e (tst l) := by
  obtain ⟨p, rfl, hp⟩ := okR_iff.1 h
  refine ⟨(thl_tst p).symm, ?_⟩
  rw [← okR_thl G, thl_tst]
  exact okR_iff.2 ⟨p, rfl, hp⟩
noncomputable def mxR (n : Nat) (f : Nat → Nat → Nat) (e : Nat) (l : List (List Int)) (k : Nat) : Bool := @decide (Mxn n f e (tsl l k) (tsl l (k + 1))) (Classical.propDecidable _)
theorem mxR_iff {l : List (List Int)} {k : Nat} : mxR n f e l k = true ↔ Mxn n f e (tsl l k) (tsl l (k + 1)) := by unfold mxR; exact @decide_eq_true_iff _ (Classical.propDecidable _)
/-- In a subgroup; normal in it. -/
def Inn (n : Nat) (p q : Nat → Bool) : Prop := ∀ x, x < n → q x = true → p x = true
def Nin (n : Nat) (f : Nat → Nat → Nat) (e : Nat) (p q : Nat → Bool) : Prop := ∀ a x, a < n → x < n → p a = true → q x = true → q (cjr n f e x a) = true
noncomputable def stF (n : Nat) (f : Nat → Nat → Nat) (e : Nat) (p q : Nat → Bool) : Int := @ite _ (Inn n p q) (Classical.propDecidable _) (@ite _ (Nin n f e p q) (Classical.propDecidable _) 6 4) 7
def facL (l : List (List Int)) (k : Nat) : List Int := (List.range k).map fun j => (((l.getD j []).length / (l.getD (j + 1) []).length : Nat) : Int)
theorem facL_succ (l : List (List Int)) (k : Nat) : facL l (k + 1) = facL l k ++ [(((l.getD k []).length / (l.getD (k + 1) []).length : Nat) : Int)] := by
  unfold facL
  rw [List.range_succ, List.map_append]; rfl
theorem facL_len (l : List (List Int)) (k : Nat) : (facL l k).length = k := by simp [facL]

/-- What Factors tells. -/
noncomputable def fsp (n : Nat) (f : Nat → Nat → Nat) (e : Nat) (l : List (List Int)) : List Int × (Int × Int) :=
  bif decide (l.length < 1) || decide (10 < l.length) then ([], (2, 0)) else
  bif decide ((l.getD 0 []).length ≠ n) || decide ((l.getD (l.length - 1) []).length ≠ 1) then ([], (8, 0)) else
  match fst' (fun i => !okR n f e (l.getD i [])) l.length with
  | some i => ([], (5, (i : Int)))
  | none => match fst' (fun k => !mxR n f e l k) (l.length - 1) with
    | some k => ([], (stF n f e (tsl l k) (tsl l (k + 1)), ((k : Int) + 1)))
    | none => (srt (facL l (l.length - 1)), (0, 0))
variable {l : List (List Int)}
theorem fsp_many (h : l.length < 1 ∨ 10 < l.length) : fsp n f e l = ([], (2, 0)) := by
  unfold fsp
  rw [← Bool.decide_or, decide_eq_true h]; rfl
/-- As many sets as can be. -/
structure Fw (n : Nat) (l : List (List Int)) : Prop where
  lo : 1 ≤ l.length
  hi : l.length ≤ 10
theorem fsp_size (hw : Fw n l) (h : (l.getD 0 []).length ≠ n ∨ (l.getD (l.length - 1) []).length ≠ 1) : fsp n f e l = ([], (8, 0)) := by
  have := hw.lo
  have := hw.hi
  unfold fsp
  rw [← Bool.decide_or, decide_eq_false (show ¬ (l.length < 1 ∨ 10 < l.length) by omega), ← Bool.decide_or, decide_eq_true h]; rfl
structure Fz (n : Nat) (l : List (List Int)) : Prop extends Fw n l where
  first : (l.getD 0 []).length = n
  last : (l.getD (l.length - 1) []).length = 1
theorem fsp_next (hz : Fz n l) : fsp n f e l = match fst' (fun i => !okR n f e (l.getD i [])) l.length with
  | some i => ([], (5, (i : Int)))
  | none => match fst' (fun k => !mxR n f e l k) (l.length - 1) with
    | some k => ([], (stF n f e (tsl l k) (tsl l (k + 1)), ((k : Int) + 1)))
    | none => (srt (facL l (l.length - 1)), (0, 0)) := by
  have := hz.lo
  have := hz.hi
  have h1 := hz.first
  have h2 := hz.last
  unfold fsp
  rw [← Bool.decide_or, decide_eq_false (show ¬ (l.length < 1 ∨ 10 < l.length) by omega), ← Bool.decide_or, decide_eq_false (show ¬ ((l.getD 0 []).length ≠ n ∨ (l.getD (l.length - 1) []).length ≠ 1) by omega)]; rfl
theorem fsp_form (hz : Fz n l) {i : Nat} (hi : i < l.length) (h : okR n f e (l.getD i []) = false) (hj : ∀ j, j < i → okR n f e (l.getD j []) = true) : fsp n f e l = ([], (5, (i : Int))) := by
  rw [fsp_next hz, fst_some hi (by rw [h]; rfl) fun j hj2 => by rw [hj j hj2]; rfl]
/-- All in their form. -/
structure Fo (n : Nat) (f : Nat → Nat → Nat) (e : Nat) (l : List (List Int)) : Prop extends Fz n l where
  ok : ∀ i, i < l.length → okR n f e (l.getD i []) = true
theorem fsp_step (h : Fo n f e l) {k : Nat} (hk : k < l.length - 1) (hm : ¬ Mxn n f e (tsl l k) (tsl l (k + 1))) (hj : ∀ j, j < k → Mxn n f e (tsl l j) (tsl l (j + 1))) : fsp n f e l = ([], (stF n f e (tsl l k) (tsl l (k + 1)), (k : Int) + 1)) := by
  rw [fsp_next h.toFz, fst_none fun i hi => by rw [h.ok i hi]; rfl]
  show (match fst' _ _ with | some k => _ | none => _) = _
  rw [fst_some hk (by rw [Bool.not_eq_true', Bool.eq_false_iff]; exact fun hh => hm (mxR_iff.1 hh)) fun j hj2 => by rw [mxR_iff.2 (hj j hj2)]; rfl]
theorem fsp_ok (h : Fo n f e l) (hj : ∀ j, j < l.length - 1 → Mxn n f e (tsl l j) (tsl l (j + 1))) : fsp n f e l = (srt (facL l (l.length - 1)), (0, 0)) := by
  rw [fsp_next h.toFz, fst_none fun i hi => by rw [h.ok i hi]; rfl]
  show (match fst' _ _ with | some k => _ | none => _) = _
  rw [fst_none fun j hj2 => by rw [mxR_iff.2 (hj j hj2)]; rfl]
theorem stF_7 {p q : Nat → Bool} (h : ¬ Inn n p q) : stF n f e p q = 7 := by unfold stF; rw [if_neg h]
theorem stF_4 {p q : Nat → Bool} (h1 : Inn n p q) (h : ¬ Nin n f e p q) : stF n f e p q = 4 := by unfold stF; rw [if_pos h1, if_neg h]
theorem stF_6 {p q : Nat → Bool} (h1 : Inn n p q) (h : Nin n f e p q) : stF n f e p q = 6 := by unfold stF; rw [if_pos h1, if_pos h]
theorem stF_ne {p q : Nat → Bool} : ¬ stF n f e p q = 0 := by
  unfold stF
  split
  · split <;> omega
  · omega
/-- Without a fault: all steps are as small as can be. -/
theorem fsp_good (h : (fsp n f e l).2.1 = 0) : Fo n f e l ∧ (∀ j, j < l.length - 1 → Mxn n f e (tsl l j) (tsl l (j + 1))) := by
  have key : l.length < 1 ∨ 10 < l.length ∨ Fw n l := by
    by_cases h1 : l.length < 1
    · exact .inl h1
    · by_cases h2 : 10 < l.length
      · exact .inr (.inl h2)
      · exact .inr (.inr ⟨by omega, by omega⟩)
  rcases key with h1 | h1 | hw
  · rw [fsp_many (.inl h1)] at h; exact absurd h (by decide)
  · rw [fsp_many (.inr h1)] at h; exact absurd h (by decide)
  by_cases h2 : (l.getD 0 []).length ≠ n ∨ (l.getD (l.length - 1) []).length ≠ 1
  · rw [fsp_size hw h2] at h; exact absurd h (by decide)
  have hz : Fz n l := ⟨hw, by omega, by omega⟩
  rw [fsp_next hz] at h
  cases h1 : fst' (fun i => !okR n f e (l.getD i [])) l.length with
  | some i => rw [h1] at h; exact absurd h (show ¬ (5 : Int) = 0 by decide)
  | none =>
    rw [h1] at h
    have ho : Fo n f e l := ⟨hz, fun i hi => by have := fst_spec0 h1 i hi; simpa using this⟩
    cases h2 : fst' (fun k => !mxR n f e l k) (l.length - 1) with
    | some k => rw [h2] at h; exact absurd h stF_ne
    | none => exact ⟨ho, fun j hj => mxR_iff.1 (by have := fst_spec0 h2 j hj; simpa using this)⟩
end
end Go.Proofs.YtjbfkdaodfdpcaaDoor

/-
  Walks: the law QuotMakes. Conditions: none.
-/
set_option linter.all false
namespace Go.Proofs.YtjbfkdaodfdpcaaDoor
open Go.Pv

theorem qtb_GT {n e : Nat} {m : List Int} (h : GT n m n e) {p : Nat → Bool} (hs : Sub n (op m n) e p) (hN : Nml n (op m n) e p) : GT (cst n (dco n (op m n) p (onp e))).length (qtb n (op m n) (dco n (op m n) p (onp e))) (cst n (dco n (op m n) p (onp e))).length (clq n (dco n (op m n) p (onp e)) e) := by
  have G := h.2.2
  have E := G.dco_eqv hs G.onp_sub
  have Q := cst_qm G E fun a b c d ha hb' hc hd h1 h2 => G.rco_cong hs hN ha hb' hc hd h1 h2
  have hcl : (cst n (dco n (op m n) p (onp e))).length ≤ n := cstp_len _ _ _
  have hb := h.2.1.big
  exact tbl_GT' (by omega) (Q.grp G)
theorem qtb_op {n : Nat} {f : Nat → Nat → Nat} {r : Nat → Nat → Bool} {i j : Nat} (hi : i < (cst n r).length) (hj : j < (cst n r).length) : op (qtb n f r) (cst n r).length i j = qop f (clq n r) (rpq n r) i j := tbl_op' _ hi hj

end Go.Proofs.YtjbfkdaodfdpcaaDoor

/-
  Walks: the law QuotSimple. Conditions: none.
-/
set_option linter.all false
namespace Go.Proofs.YtjbfkdaodfdpcaaDoor
open Go.Pv

/-- A group whose things make it, each with its conjugates. -/
def SimP (n e : Nat) (cw : Nat → Nat → Bool) (k : Nat) : Prop := 1 < n ∧ ∀ a, a < k → a = e ∨ (thl n (cw a)).length = n

theorem simple_ok {n e : Nat} {m : List Int} (h : GT n m n e) (cw : Nat → Nat → Bool) (hqa : ∀ a x, x < n → (cw a x = true ↔ Gen n (op m n) e (cup n (op m n) e (onp a)) x)) (b : Bool) (hbs : b = true ↔ SimP n e cw n) :
    FnC Tryd.prog 76 [gp n m] (.tup [.bool b, fl (0, 0)]) := by
  have G := h.2.2
  have hb := h.2.1.big
  have hml := h.2.1.len
  have hsq := sq_le hb
  refine fnc_of tab_ok Tryd.func76 rfl (by kernel_rfl) (by rw [Tryd.ntmps76]; exact Nat.le_add_left 1 _) ?_; rw [Tryd.ntmps76]
  refine qm ?_
  refine hk_region fun K hK => runs_eval tab_ok ?_
  simp only [ev0, evA, evB, evP, fl, gp, tab, simprocAttr, reduceCtorEq, reduceIte]
  refine fin_run ?_ (hK _ ?_) <;> clear hK <;> clear K
  · (first | exact trivial | omega | (simp only [In64] at *; omega) | (simp [In64] at *; omega) | (simp_all; done) | skip)
  refine qa (qm (qm ?_))
  refine hk_region fun K hK => runs_eval tab_ok ?_
  simp only [ev0, evA, evB, evP, fl, gp, tab, simprocAttr, reduceCtorEq, reduceIte]
  refine fin_stop trivial (runs_call (check_c n m (by omega)) rfl rfl rfl (by simp only [dstOk, Nat.reduceLT]) (by repeat (first | exact trivial | constructor)) (runs_eval tab_ok ?_))
  simp only [ev0, evA, evB, evP, fl, gp, tab, simprocAttr, reduceCtorEq, reduceIte, gf_of h]
  refine fin_run ?_ (hK _ ?_) <;> clear hK <;> clear K
  · (first | exact trivial | omega | (simp only [In64] at *; omega) | (simp [In64] at *; omega) | (simp_all; done) | skip)
  refine qa (qm ?_)
  refine hk_region fun K hK => runs_eval tab_ok ?_
  simp only [ev0, evA, evB, evP, fl, gp, tab, simprocAttr, reduceCtorEq, reduceIte]
  refine fin_run ?_ (hK _ ?_) <;> clear hK <;> clear K
  · (first | exact trivial | omega | (simp only [In64] at *; omega) | (simp [In64] at *; omega) | (simp_all; done) | skip)
  refine qa ?_
  refine hk_cond rfl (fun hC1 => ?_) (fun hC1 => ?_)
  · cases hC1
  · (try simp only [nhs] at hC1)
    refine qh (qa (qm (qm ?_)))
    refine hk_region fun K hK => runs_eval tab_ok ?_
    simp only [ev0, evA, evB, evP, fl, gp, tab, simprocAttr, reduceCtorEq, reduceIte]
    refine fin_run ?_ (hK _ ?_) <;> clear hK <;> clear K
    · (first | exact trivial | omega | (simp only [In64] at *; omega) | (simp [In64] at *; omega) | (simp_all; done) | skip)
    refine qa (ql ?_)
    refine hk_loop (ι := Nat) (fun a => ⟨41, [(1, .ptr 0 0), (3, .ptr 1 0), (15, .p (.int .i64 n)), (16, .p (.int .i64 a))], [.own [.p (.int .i64 n), .p (.list (il m))], .own [.p (.int .i64 0), .p (.int .i64 0)]]⟩) (fun a => a ≤ n ∧ ∀ c, c < a → c = e ∨ (thl n (cw c)).length = n) (fun a => n - a) 0 ⟨Nat.zero_le _, fun j hj => by omega⟩ [0, 1] (by simp only [leq, leA, ev0, evA, evB, evP, fl, gp, tab, simprocAttr, reduceCtorEq, reduceIte] <;> trivial) fun a ha => ?_
    obtain ⟨ha1, ha2⟩ := ha
    refine qm ?_
    refine hk_region fun K hK => runs_eval tab_ok ?_
    simp only [ev0, evA, evB, evP, fl, gp, tab, simprocAttr, reduceCtorEq, reduceIte]
    refine fin_run trivial (hK _ ?_) <;> clear hK <;> clear K
    refine qa (qm ?_)
    refine hk_cond rfl (fun hC2 => ?_) (fun hC2 => ?_)
    · (try simp only [nhs] at hC2)
      have hal : a < n := by omega
      refine qh (qa (qm (ql (qm ?_))))
      refine hk_region fun K hK => runs_eval tab_ok ?_
      simp only [ev0, evA, evB, evP, fl, gp, tab, simprocAttr, reduceCtorEq, reduceIte]
      refine fin_run trivial (hK _ ?_) <;> clear hK <;> clear K
      refine qa (qm (qm ?_))
      refine hk_region fun K hK => runs_eval tab_ok ?_
      simp only [ev0, evA, evB, evP, fl, gp, tab, simprocAttr, reduceCtorEq, reduceIte]
      refine fin_stop trivial (runs_call (oneOf_c h) rfl rfl rfl (by simp only [dstOk, Nat.reduceLT]) (by repeat (first | exact trivial | constructor)) (runs_eval tab_ok ?_))
      simp only [ev0, evA, evB, evP, fl, gp, tab, simprocAttr, reduceCtorEq, reduceIte]
      refine fin_run ?_ (hK _ ?_) <;> clear hK <;> clear K
      · (first | exact trivial | omega | (simp only [In64] at *; omega) | (simp [In64] at *; omega) | (simp_all; done) | skip)
      refine qa ?_
      refine hk_cond rfl (fun hC3 => ?_) (fun hC3 => ?_)
      · (try simp only [nhs] at hC3)
        refine qj (qc (qf (qa ?_)))
        refine hk_region fun K hK => runs_eval tab_ok ?_
        simp only [ev0, evA, evB, evP, fl, gp, tab, simprocAttr, reduceCtorEq, reduceIte]
        refine fin_run ?_ (hK _ ?_) <;> clear hK <;> clear K
        · (first | exact trivial | omega | (simp only [In64] at *; omega) | (simp [In64] at *; omega) | (simp_all; done) | skip)
        refine qa ?_
        have hae : a = e := by omega
        refine ⟨a + 1, [0, 1], ⟨by omega, fun c hc => ?_⟩, by omega, ?_⟩
        · by_cases hca : c = a
          · rw [hca]; exact .inl hae
          · exact ha2 c (by omega)
        · simp only [leq, leA, ev0, evA, evB, evP, fl, gp, tab, simprocAttr, reduceCtorEq, reduceIte] <;> first | trivial | omega
      · (try simp only [nhs] at hC3)
        have hae : a ≠ e := fun he => hC3 (by rw [he])
        have hcl := closure_ok h (onp a) (cw a) (hqa a)
        have h1 : thl n (onp a) = [(a : Int)] := thl_one hal
        rw [h1] at hcl
        have hlq := thl_le n (cw a)
        refine qh (qa (qm ?_))
        refine hk_region fun K hK => runs_eval tab_ok ?_
        simp only [ev0, evA, evB, evP, fl, gp, tab, simprocAttr, reduceCtorEq, reduceIte]
        refine fin_stop ?_ (runs_call (FnC.sub (args' := [gp n m, .nn (il [(a : Int)])]) hcl (And.intro (.same _) (And.intro (.nn _) trivial))) rfl rfl rfl (by simp only [dstOk, Nat.reduceLT]) (by repeat (first | exact trivial | constructor)) (runs_eval tab_ok ?_))
        · (first | exact trivial | omega | (simp only [In64] at *; omega) | (simp [In64] at *; omega) | (simp_all; done) | skip)
        simp only [ev0, evA, evB, evP, fl, gp, tab, simprocAttr, reduceCtorEq, reduceIte]
        refine fin_run ?_ (hK _ ?_) <;> clear hK <;> clear K
        · (first | exact trivial | omega | (simp only [In64] at *; omega) | (simp [In64] at *; omega) | (simp_all; done) | skip)
        refine qa (qm ?_)
        refine hk_region fun K hK => runs_eval tab_ok ?_
        simp only [ev0, evA, evB, evP, fl, gp, tab, simprocAttr, reduceCtorEq, reduceIte, il_length]
        refine fin_run ?_ (hK _ ?_) <;> clear hK <;> clear K
        · (first | exact trivial | omega | (simp only [In64] at *; omega) | (simp [In64] at *; omega) | (simp_all; done) | skip)
        refine qa ?_
        refine hk_cond rfl (fun hC4 => ?_) (fun hC4 => ?_)
        · (try simp only [nhs] at hC4)
          refine qm ?_
          refine hk_region fun K hK => runs_eval tab_ok ?_
          simp only [ev0, evA, evB, evP, fl, gp, tab, simprocAttr, reduceCtorEq, reduceIte]
          refine fin_run ?_ (hK _ ?_) <;> clear hK <;> clear K
          · (first | exact trivial | omega | (simp only [In64] at *; omega) | (simp [In64] at *; omega) | (simp_all; done) | skip)
          refine qa (qk (qe (qb (qb (qe (qb ?_))))))
          simp only [Tryd.results76, enA, ev0, evA, evB, evP, fl, gp, tab, simprocAttr, reduceCtorEq, reduceIte]
          have hbf : b = false := by
            cases b with
            | false => rfl
            | true =>
              rcases (hbs.1 rfl).2 a hal with h' | h'
              · exact absurd h' hae
              · omega
          rw [hbf]
        · (try simp only [nhs] at hC4)
          have hfull : (thl n (cw a)).length = n := by omega
          refine qh (qd (qa ?_))
          refine hk_region fun K hK => runs_eval tab_ok ?_
          simp only [ev0, evA, evB, evP, fl, gp, tab, simprocAttr, reduceCtorEq, reduceIte]
          refine fin_run ?_ (hK _ ?_) <;> clear hK <;> clear K
          · (first | exact trivial | omega | (simp only [In64] at *; omega) | (simp [In64] at *; omega) | (simp_all; done) | skip)
          refine qa ?_
          refine ⟨a + 1, [0, 1], ⟨by omega, fun c hc => ?_⟩, by omega, ?_⟩
          · by_cases hca : c = a
            · rw [hca]; exact .inr hfull
            · exact ha2 c (by omega)
          · simp only [leq, leA, ev0, evA, evB, evP, fl, gp, tab, simprocAttr, reduceCtorEq, reduceIte] <;> first | trivial | omega
    · (try simp only [nhs] at hC2)
      refine qj (qc (qc (qf (qa (qm ?_)))))
      refine hk_region fun K hK => runs_eval tab_ok ?_
      simp only [ev0, evA, evB, evP, fl, gp, tab, simprocAttr, reduceCtorEq, reduceIte]
      refine fin_run ?_ (hK _ ?_) <;> clear hK <;> clear K
      · (first | exact trivial | omega | (simp only [In64] at *; omega) | (simp [In64] at *; omega) | (simp_all; done) | skip)
      refine qa (qk ?_)
      simp only [Tryd.results76, enA, ev0, evA, evB, evP, fl, gp, tab, simprocAttr, reduceCtorEq, reduceIte]
      have hbt : decide ((n : Int) > 1) = b := by
        rw [Bool.eq_iff_iff, decide_eq_true_eq, hbs]
        exact ⟨fun h' => ⟨by omega, fun c hc => ha2 c (by omega)⟩, fun h' => by have := h'.1; omega⟩
      rw [hbt]

/-- What a thing is conjugated to. -/
def conl (n : Nat) (f : Nat → Nat → Nat) (e a b : Nat) : List Int := (List.range b).map fun c => ((cjr n f e a c : Nat) : Int)
end Go.Proofs.YtjbfkdaodfdpcaaDoor

/-
  Contracts of the library, laid at this dump: numbers, and that each body is the same. Conditions: none; written by a program of this repo out of the kit's own tool.
-/
set_option linter.all false
namespace Go.Proofs
open Go.Shelf
def Tryd.sortI_ren : Go.Shelf.Ren := ⟨fun | 189 => 77 | 125 => 135 | 257 => 134 | 128 => 172 | 129 => 173 | 294 => 163 | 295 => 164 | 296 => 165 | 297 => 166 | 298 => 167 | 299 => 168 | 216 => 169 | 300 => 170 | 301 => 171 | 328 => 187 | 329 => 188 | 330 => 189 | 331 => 190 | 332 => 191 | 215 => 186 | 343 => 203 | n => n, fun | 28 => 22 | 3 => 3 | 46 => 117 | 0 => 0 | 51 => 144 | 53 => 83 | 4 => 4 | 183 => 136 | 182 => 135 | 131 => 141 | 5 => 5 | 9 => 9 | 218 => 154 | 222 => 158 | 228 => 167 | 229 => 168 | n => n, fun | n => n⟩
theorem Tryd.sortI : Go.Proofs.Lays.n189 Tryd.prog Tryd.sortI_ren := {
  mixed := by kernel_rfl
  f125 := Tryd.func135.trans (congrArg some (by kernel_rfl))
  f128 := Tryd.func172.trans (congrArg some (by kernel_rfl))
  f129 := Tryd.func173.trans (congrArg some (by kernel_rfl))
  f189 := Tryd.func77.trans (congrArg some (by kernel_rfl))
  f215 := Tryd.func186.trans (congrArg some (by kernel_rfl))
  f216 := Tryd.func169.trans (congrArg some (by kernel_rfl))
  f257 := Tryd.func134.trans (congrArg some (by kernel_rfl))
  f294 := Tryd.func163.trans (congrArg some (by kernel_rfl))
  f295 := Tryd.func164.trans (congrArg some (by kernel_rfl))
  f296 := Tryd.func165.trans (congrArg some (by kernel_rfl))
  f297 := Tryd.func166.trans (congrArg some (by kernel_rfl))
  f298 := Tryd.func167.trans (congrArg some (by kernel_rfl))
  f299 := Tryd.func168.trans (congrArg some (by kernel_rfl))
  f300 := Tryd.func170.trans (congrArg some (by kernel_rfl))
  f301 := Tryd.func171.trans (congrArg some (by kernel_rfl))
  f328 := Tryd.func187.trans (congrArg some (by kernel_rfl))
  f329 := Tryd.func188.trans (congrArg some (by kernel_rfl))
  f330 := Tryd.func189.trans (congrArg some (by kernel_rfl))
  f331 := Tryd.func190.trans (congrArg some (by kernel_rfl))
  f332 := Tryd.func191.trans (congrArg some (by kernel_rfl))
  f343 := Tryd.func203.trans (congrArg some (by kernel_rfl))
  t0 := Tryd.underlying0
  a0 := Tryd.isAgg0
  z0 := Tryd.sizeOf0
  v0 := Tryd.zeroValue0
  t3 := Tryd.underlying3
  a3 := Tryd.isAgg3
  z3 := Tryd.sizeOf3
  v3 := Tryd.zeroValue3
  t4 := Tryd.underlying4
  a4 := Tryd.isAgg4
  z4 := Tryd.sizeOf4
  v4 := Tryd.zeroValue4
  t5 := Tryd.underlying5
  a5 := Tryd.isAgg5
  z5 := Tryd.sizeOf5
  v5 := Tryd.zeroValue5
  t9 := Tryd.underlying9
  a9 := Tryd.isAgg9
  z9 := Tryd.sizeOf9
  v9 := Tryd.zeroValue9
  t28 := Tryd.underlying22
  a28 := Tryd.isAgg22
  z28 := Tryd.sizeOf22
  v28 := Tryd.zeroValue22
  t46 := Tryd.underlying117
  a46 := Tryd.isAgg117
  z46 := Tryd.sizeOf117
  v46 := Tryd.zeroValue117
  t51 := Tryd.underlying144
  a51 := Tryd.isAgg144
  z51 := Tryd.sizeOf144
  v51 := Tryd.zeroValue144
  t53 := Tryd.underlying83
  a53 := Tryd.isAgg83
  z53 := Tryd.sizeOf83
  v53 := Tryd.zeroValue83
  t131 := Tryd.underlying141
  a131 := Tryd.isAgg141
  z131 := Tryd.sizeOf141
  v131 := Tryd.zeroValue141
  t182 := Tryd.underlying135
  a182 := Tryd.isAgg135
  z182 := Tryd.sizeOf135
  v182 := Tryd.zeroValue135
  t183 := Tryd.underlying136
  a183 := Tryd.isAgg136
  z183 := Tryd.sizeOf136
  v183 := Tryd.zeroValue136
  t218 := Tryd.underlying154
  a218 := Tryd.isAgg154
  z218 := Tryd.sizeOf154
  v218 := Tryd.zeroValue154
  t222 := Tryd.underlying158
  a222 := Tryd.isAgg158
  z222 := Tryd.sizeOf158
  v222 := Tryd.zeroValue158
  t228 := Tryd.underlying167
  a228 := Tryd.isAgg167
  z228 := Tryd.sizeOf167
  v228 := Tryd.zeroValue167
  t229 := Tryd.underlying168
  a229 := Tryd.isAgg168
  z229 := Tryd.sizeOf168
  v229 := Tryd.zeroValue168 }
end Go.Proofs

/-
  The program's Factors. Conditions: none.
-/
set_option linter.all false
namespace Go.Proofs.YtjbfkdaodfdpcaaDoor
open Go.Pv

section
variable {n e k d : Nat} {f g : Nat → Nat → Nat} {p q : Nat → Bool}
theorem ix_pix {x : Nat} (hx : x < n) (px : p x = true) : ix (thl n p) (x : Int) = ((pix p x : Nat) : Int) := by
  obtain ⟨h1, h2⟩ := pix_at hx px
  unfold ix
  have h3 := fst_some (p := fun i => decide ((thl n p).getD i 0 = (x : Int))) h1 (decide_eq_true h2) fun j hj => decide_eq_false fun h => by
    have := pix_get (show j < (thl n p).length by omega) hx px h
    omega
  rw [h3]
theorem ix_out {x : Nat} (hx : x < n) (px : p x = false) : ix (thl n p) (x : Int) < 0 := by
  refine Int.not_le.1 fun hh => ?_
  obtain ⟨i, i1, i2⟩ := (ix_mem _ _).1 hh
  obtain ⟨y, y1, y2, y3⟩ := thl_get i1
  rw [y3] at i2
  have : y = x := by omega
  rw [this, px] at y2; cases y2
/-- Where the things of the second stand in the first. -/
def kix (p : Nat → Bool) (l : List Int) : List Int := l.map fun z => ((pix p z.toNat : Nat) : Int)
theorem kix_len (p : Nat → Bool) (l : List Int) : (kix p l).length = l.length := by simp [kix]
theorem kix_succ (p : Nat → Bool) {l : List Int} {i : Nat} (hi : i < l.length) : kix p (l.take (i + 1)) = kix p (l.take i) ++ [((pix p (l.getD i 0).toNat : Nat) : Int)] := by
  unfold kix
  rw [List.take_succ_eq_append_getElem hi, List.map_append]
  have : l[i] = l.getD i 0 := by simp [List.getD, List.getElem?_eq_getElem hi]
  rw [this]; rfl
theorem kix_all (hle : Inn n p q) : kix p (thl n q) = thl (thl n p).length (dwn n p q) := by
  have h1 := lft_thl p (dwn n p q) n
  rw [thl_congr (lft_dwn hle)] at h1
  rw [← h1]
  unfold kix
  rw [List.map_map]
  refine (List.map_congr_left fun z hz => ?_).trans (List.map_id _)
  obtain ⟨i, i1, _, rfl⟩ := mem_thl.1 hz
  show ((pix p (((lat n p ((i : Nat) : Int).toNat : Nat) : Int)).toNat : Nat) : Int) = (i : Int)
  rw [Int.toNat_natCast, Int.toNat_natCast, (lat_at i1).2.2.2]

theorem simP_mxn (B : Grp k g d) (cw : Nat → Nat → Bool) (hcw : ∀ a x, x < k → (cw a x = true ↔ Gen k g d (cup k g d (onp a)) x)) : SimP k d cw k ↔ Mxn k g d (fun _ => true) (onp d) := by
  have hfull : ∀ a, (thl k (cw a)).length = k ↔ ∀ y, y < k → cw a y = true := fun a => by
    have : (thl k (cw a)).length = (mem k (cw a)).length := thl_len _ _
    rw [this]; exact mem_all
  constructor
  · rintro ⟨h1, h2⟩
    refine ⟨B.onp_sub, fun _ _ _ => rfl, fun c x hc hx _ h => B.one_nml c hc x hx h, ?_, fun x hx _ hxd t ht h3 h4 y hy _ => ?_⟩
    · by_cases hd : d = 0
      · exact ⟨1, h1, rfl, by cases h : onp d 1 with | false => rfl | true => have := onp_iff.1 h; omega⟩
      · exact ⟨0, by omega, rfl, by cases h : onp d 0 with | false => rfl | true => have := onp_iff.1 h; omega⟩
    · rcases h2 x hx with rfl | h5
      · rw [onp_iff.2 rfl] at hxd; cases hxd
      · refine ((hcw x y hy).1 ((hfull x).1 h5 y hy)).sub B ht fun b hb hc => ?_
        obtain ⟨u, v, u1, v1, u2, rfl⟩ := cup_iff.1 hc
        rw [onp_iff.1 u2]
        exact h4 v v1 rfl
  · intro h
    refine ⟨?_, fun a ha => ?_⟩
    · obtain ⟨x, x1, _, x3⟩ := h.ne
      have xd : x ≠ d := fun h => by rw [onp_iff.2 h] at x3; cases x3
      have := B.el
      omega
    · by_cases had : a = d
      · exact .inl had
      · refine .inr ((hfull a).2 fun y hy => ?_)
        have cs := gen_sub B (hcw a)
        refine h.mx a ha rfl (by cases h : onp d a with | false => rfl | true => exact absurd (onp_iff.1 h) had) (cw a) cs (fun z hz h => by rw [onp_iff.1 h]; exact cs.one) (fun b hb _ => ?_) y hy rfl
        have hl := B.cjr_lt ha hb
        exact (hcw a _ hl).2 (Gen.mem B hl (cup_iff.2 ⟨a, b, ha, hb, onp_iff.2 rfl, rfl⟩))
theorem Hm.mxn_iff {φ : Nat → Nat} (H : Hm n f e p k g d φ) (G : Grp n f e) (hq : Sub n f e q) (h1 : ∀ x, x < n → pre p φ (onp d) x = q x) : Mxn n f e p q ↔ Mxn k g d (fun _ => true) (onp d) := by
  have ht : ∀ x, x < n → pre p φ (fun _ => true) x = p x := fun x hx => by show (p x && true) = p x; rw [Bool.and_true]
  constructor
  · intro h
    exact H.of_pre G H.grp.onp_sub ((h.congr_r G (H.pre_sub G H.grp.onp_sub) h1).congr_l ht)
  · intro h
    exact ((H.pre_mxn G H.grp.all_sub h).congr_r G hq fun x hx => (h1 x hx).symm).congr_l fun x hx => (ht x hx).symm
end

section
variable {n e : Nat} {m : List Int} {p q : Nat → Bool}
def Qr (n : Nat) (m : List Int) (e : Nat) (p q : Nat → Bool) : Nat → Nat → Bool := Go.Proofs.YtjbfkdaodfdpcaaDoor.dco (thl n p).length (op (ptb n (op m n) p) (thl n p).length) (dwn n p q) (onp (pix p e))
theorem part_hm2 (h : GT n m n e) (hp : Sub n (op m n) e p) : Hm n (op m n) e p (thl n p).length (op (ptb n (op m n) p) (thl n p).length) (pix p e) (pix p) :=
  (part_hm h.2.2 hp).cong_op (ptb_op _) (ptb_GT h hp).2.2
theorem dwn_sub2 (h : GT n m n e) (hp : Sub n (op m n) e p) (hq : Sub n (op m n) e q) : Sub (thl n p).length (op (ptb n (op m n) p) (thl n p).length) (pix p e) (dwn n p q) :=
  (dwn_sub h.2.2 hp hq).cong_op (ptb_GT h hp).2.2 (cong_symm (ptb_op _))
theorem dwn_nml2 (h : GT n m n e) (hp : Sub n (op m n) e p) (hle : Inn n p q) : Nml (thl n p).length (op (ptb n (op m n) p) (thl n p).length) (pix p e) (dwn n p q) ↔ Nin n (op m n) e p q := by
  have h1 := dwn_nml (q := q) h.2.2 hp
  constructor
  · intro hh a x ha hx pa qx
    exact h1.1 (hh.cong_op (ptb_grp h.2.2 hp) (ptb_op _)) a x ha hx pa (hle x hx qx) qx
  · intro hh
    exact (h1.2 fun a x ha hx pa _ qx => hh a x ha hx pa qx).cong_op (ptb_GT h hp).2.2 (cong_symm (ptb_op _))
theorem step_gt (h : GT n m n e) (hp : Sub n (op m n) e p) (hq : Sub n (op m n) e q) (hle : Inn n p q) (hN : Nin n (op m n) e p q) :
    ∃ φ d, GT (cst (thl n p).length (Qr n m e p q)).length (qtb (thl n p).length (op (ptb n (op m n) p) (thl n p).length) (Qr n m e p q)) (cst (thl n p).length (Qr n m e p q)).length d ∧
      Hm n (op m n) e p (cst (thl n p).length (Qr n m e p q)).length (op (qtb (thl n p).length (op (ptb n (op m n) p) (thl n p).length) (Qr n m e p q)) (cst (thl n p).length (Qr n m e p q)).length) d φ ∧
      (∀ x, x < n → pre p φ (onp d) x = q x) ∧ (cst (thl n p).length (Qr n m e p q)).length * (mem n q).length = (mem n p).length := by
  have hP := ptb_GT h hp
  have ds := dwn_sub2 h hp hq
  have dn := (dwn_nml2 h hp hle).2 hN
  have hQ := qtb_GT hP ds dn
  have H1 := part_hm2 h hp
  have H2 := (quot_hm hP.2.2 ds dn).cong_op (fun a b ha hb => qtb_op ha hb) hQ.2.2
  refine ⟨_, _, hQ, H1.comp H2, fun x hx => ?_, ?_⟩
  · unfold pre
    cases px : p x with
    | false =>
      cases qx : q x with
      | false => rfl
      | true => rw [hle x hx qx] at px; cases px
    | true =>
      rw [Bool.true_and, Bool.eq_iff_iff, onp_iff]
      refine (quot_ker hP.2.2 ds (H1.lt x hx px)).trans ?_
      unfold dwn
      rw [lat_pix hx px]
  · have := quot_num hP.2.2 ds
    rw [dwn_len hle] at this
    have e1 : (thl n p).length = (mem n p).length := thl_len _ _
    rw [← e1]; exact this

/-- A row as Is has it. -/
theorem row3 (h : GT n m n e) (l : List Int) (hl : l.length ≤ 1000000000000000) : okR n (op m n) e l = true ∨ (okR n (op m n) e l = false ∧ ∃ w : Int × Int, w.1 = 0 ∧ FnC Tryd.prog 55 [gp n m, .list (il l)] (.tup [.bool false, fl w])) ∨ (okR n (op m n) e l = false ∧ ∃ w : Int × Int, ¬ w.1 = 0 ∧ FnC Tryd.prog 55 [gp n m, .list (il l)] (.tup [.bool false, fl w])) := by
  cases ho : okR n (op m n) e l with
  | true => exact .inl rfl
  | false =>
    refine .inr ?_
    rcases sub3 n m l with ⟨n', e', q, h', hn, rfl, hs⟩ | ⟨n', e', q, h', hn, rfl, hs⟩ | hf
    · have : n' = n := by omega
      subst this
      have he : e' = e := by
        have h1 := h'.2.2.one_l e h.2.2.el
        rw [h.2.2.one_r e' h'.2.2.el] at h1
        exact h1
      subst he
      rw [(okR_thl h.2.2).2 hs] at ho; cases ho
    · have : n' = n := by omega
      subst this
      exact .inl ⟨rfl, (0, 0), rfl, is_ok h' q false (by simp [hs])⟩
    · exact .inr ⟨rfl, _, hf, is_no n m l (by have := h.2.1.len; have := sq_le h.2.1.big; omega) hl hf⟩

theorem serFault_c (c a : Int) : FnC Tryd.prog 74 [.int .i64 c, .int .i64 a] (fl (c, a)) := by
  refine fnc_of tab_ok Tryd.func74 rfl (by kernel_rfl) (by rw [Tryd.ntmps74]; exact Nat.le_add_left 2 _) ?_; rw [Tryd.ntmps74]
  refine qm ?_
  refine hk_region fun K hK => runs_eval tab_ok ?_
  simp only [ev0, evA, evB, evP, fl, gp, tab, simprocAttr, reduceCtorEq, reduceIte]
  refine fin_run ?_ (hK _ ?_) <;> clear hK <;> clear K
  · (first | exact trivial | omega | (simp only [In64] at *; omega) | (simp [In64] at *; omega) | (simp_all; done) | skip)
  refine qa (qm ?_)
  refine hk_region fun K hK => runs_eval tab_ok ?_
  simp only [ev0, evA, evB, evP, fl, gp, tab, simprocAttr, reduceCtorEq, reduceIte]
  refine fin_run ?_ (hK _ ?_) <;> clear hK <;> clear K
  · (first | exact trivial | omega | (simp only [In64] at *; omega) | (simp [In64] at *; omega) | (simp_all; done) | skip)
  refine qa (qk ?_)
  simp only [Tryd.results74, enA, ev0, evA, evB, evP, fl, gp, tab, simprocAttr, reduceCtorEq, reduceIte]
  all_goals ((first | exact rfl | exact ⟨rfl, rfl⟩ | exact ⟨rfl, rfl, rfl⟩ | exact ⟨trivial, rfl⟩ | exact ⟨Nat.le_refl _, rfl⟩ | trivial | (simp; done)))

theorem cwx (n : Nat) (f : Nat → Nat → Nat) (e : Nat) : ∃ cw : Nat → Nat → Bool, ∀ a x, x < n → (cw a x = true ↔ Gen n f e (cup n f e (onp a)) x) := by
  obtain ⟨nx, h⟩ := nx_ex n f e (fun p => cup n f e p)
  exact ⟨fun a => nx (onp a), fun a x hx => h (onp a) x hx⟩
set_option maxHeartbeats 8000000 in
set_option maxRecDepth 20000 in
theorem factors_ok (h : GT n m n e) (ls : List (List Int)) (hw : Fw n ls) (hr : ∀ w ∈ ls, w.length ≤ 17592186043904) : FnC Tryd.prog 15 [gp n m, .list (ll ls)] (.tup [.list (il (fsp n (op m n) e ls).1), fl (fsp n (op m n) e ls).2]) := by
  have G := h.2.2
  have hb := h.2.1.big
  have hml := h.2.1.len
  have hsq := sq_le hb
  have hlo := hw.lo
  have hhi := hw.hi
  have hll := ll_length ls
  have hl0 := ll_get (ls := ls) (i := 0) (by omega)
  have hlZ := ll_get (ls := ls) (i := ls.length - 1) (by omega)
  have hl1 : ((ls.length : Int) - 1) = ((ls.length - 1 : Nat) : Int) := by omega
  have hrow : ∀ i, i < ls.length → (ls.getD i []).length ≤ 17592186043904 := fun i hi => hr _ (by simp [List.getD, List.getElem?_eq_getElem hi])
  have hr0 := hrow 0 (by omega)
  have hrZ := hrow (ls.length - 1) (by omega)
  refine fnc_of tab_ok Tryd.func15 rfl (by kernel_rfl) (by rw [Tryd.ntmps15]; exact Nat.le_add_left 2 _) ?_; rw [Tryd.ntmps15]
  refine qm ?_
  refine hk_region fun K hK => runs_eval tab_ok ?_
  simp only [ev0, evA, evB, evP, fl, gp, tab, simprocAttr, reduceCtorEq, reduceIte]
  refine fin_run ?_ (hK _ ?_) <;> clear hK <;> clear K
  · (first | exact trivial | omega | (simp only [In64] at *; omega) | (simp [In64] at *; omega) | (simp_all; done) | skip)
  refine qa (qm (qm ?_))
  refine hk_region fun K hK => runs_eval tab_ok ?_
  simp only [ev0, evA, evB, evP, fl, gp, tab, simprocAttr, reduceCtorEq, reduceIte]
  refine fin_stop trivial (runs_call (check_c n m (by omega)) rfl rfl rfl (by simp only [dstOk, Nat.reduceLT]) (by repeat (first | exact trivial | constructor)) (runs_eval tab_ok ?_))
  simp only [ev0, evA, evB, evP, fl, gp, tab, simprocAttr, reduceCtorEq, reduceIte, gf_of h]
  refine fin_run ?_ (hK _ ?_) <;> clear hK <;> clear K
  · (first | exact trivial | omega | (simp only [In64] at *; omega) | (simp [In64] at *; omega) | (simp_all; done) | skip)
  refine qa (qm ?_)
  refine hk_region fun K hK => runs_eval tab_ok ?_
  simp only [ev0, evA, evB, evP, fl, gp, tab, simprocAttr, reduceCtorEq, reduceIte]
  refine fin_run ?_ (hK _ ?_) <;> clear hK <;> clear K
  · (first | exact trivial | omega | (simp only [In64] at *; omega) | (simp [In64] at *; omega) | (simp_all; done) | skip)
  refine qa ?_
  refine hk_cond rfl (fun hC1 => ?_) (fun hC1 => ?_)
  · cases hC1
  · (try simp only [nhs] at hC1)
    refine qh (qa (qm (qm ?_)))
    refine hk_region fun K hK => runs_eval tab_ok ?_
    simp only [ev0, evA, evB, evP, fl, gp, tab, simprocAttr, reduceCtorEq, reduceIte, ll_length, decide_eq_false (show ¬ ((ls.length : Nat) : Int) < 1 by omega)]
    refine fin_run trivial (hK _ ?_) <;> clear hK <;> clear K
    refine qa ?_
    refine hk_cond rfl (fun hC2 => ?_) (fun hC2 => ?_)
    · (try simp only [nhs] at hC2)
      omega
    · (try simp only [nhs] at hC2)
      refine qh (qa (qm (qm ?_)))
      by_cases k6 : (ls.getD 0 []).length = n
      · refine hk_draw mixed (by kernel_rfl) fun K hK => runs_eval tab_ok ?_
        simp only [ev0, evA, evB, evP, fl, gp, tab, simprocAttr, reduceCtorEq, reduceIte, ll_length, hl0, il_length, hl1, hlZ, bne_self_eq_false, k6]
        refine fin_run ?_ (hK _ ?_) <;> clear hK <;> clear K
        · (first | exact trivial | omega | (simp only [In64] at *; omega) | (simp [In64] at *; omega) | (simp_all; done) | skip)
        refine qa ?_
        refine hk_cond rfl (fun hC3 => ?_) (fun hC3 => ?_)
        · (try simp only [nhs] at hC3)
          have hsz := fsp_size (f := op m n) (e := e) hw (.inr fun hh => hC3 (by omega))
          refine qm ?_
          refine hk_region fun K hK => runs_eval tab_ok ?_
          simp only [ev0, evA, evB, evP, fl, gp, tab, simprocAttr, reduceCtorEq, reduceIte]
          refine fin_stop trivial (runs_call (serFault_c 8 0) rfl rfl rfl (by simp only [dstOk, Nat.reduceLT]) (by repeat (first | exact trivial | constructor)) (runs_eval tab_ok ?_))
          simp only [ev0, evA, evB, evP, fl, gp, tab, simprocAttr, reduceCtorEq, reduceIte]
          refine fin_run ?_ (hK _ ?_) <;> clear hK <;> clear K
          · (first | exact trivial | omega | (simp only [In64] at *; omega) | (simp [In64] at *; omega) | (simp_all; done) | skip)
          refine qa (qk (qb ?_))
          simp only [Tryd.results15, enA, ev0, evA, evB, evP, fl, gp, tab, simprocAttr, reduceCtorEq, reduceIte]
          all_goals (rw [hsz]; exact ⟨rfl, rfl, rfl⟩)
        · (try simp only [nhs] at hC3)
          have hz : Fz n ls := ⟨hw, k6, by omega⟩
          refine qh (qa (qm (qm ?_)))
          refine hk_region fun K hK => runs_eval tab_ok ?_
          simp only [ev0, evA, evB, evP, fl, gp, tab, simprocAttr, reduceCtorEq, reduceIte]
          refine fin_run trivial (hK _ ?_) <;> clear hK <;> clear K
          refine qa (ql ?_)
          refine hk_loop (ι := Nat) (fun i => ⟨153, [(1, .p (.list (ll ls))), (2, .ptr 0 0), (5, .ptr 1 0), (58, .p (.list (ll ls))), (59, .p (.int .i64 ls.length)), (60, .p (.int .i64 i))], [.own [.p (.int .i64 n), .p (.list (il m))], .own [.p (.int .i64 0), .p (.int .i64 0)]]⟩) (fun i => i ≤ ls.length ∧ ∀ j, j < i → okR n (op m n) e (ls.getD j []) = true) (fun i => ls.length - i) 0 ⟨Nat.zero_le _, fun j hj => by omega⟩ [0, 1] (by simp only [leq, leA, ev0, evA, evB, evP, fl, gp, tab, simprocAttr, reduceCtorEq, reduceIte, ll_length] <;> trivial) fun i hi => ?_
          obtain ⟨hi1, hi2⟩ := hi
          refine qm ?_
          refine hk_region fun K hK => runs_eval tab_ok ?_
          simp only [ev0, evA, evB, evP, fl, gp, tab, simprocAttr, reduceCtorEq, reduceIte]
          refine fin_run trivial (hK _ ?_) <;> clear hK <;> clear K
          refine qa (qm ?_)
          refine hk_cond rfl (fun hC4 => ?_) (fun hC4 => ?_)
          · (try simp only [nhs] at hC4)
            have hil : i < ls.length := by omega
            have hli := ll_get (ls := ls) (i := i) hil
            have hri := hrow i hil
            refine qh (qa (qm (ql (qm ?_))))
            refine hk_region fun K hK => runs_eval tab_ok ?_
            simp only [ev0, evA, evB, evP, fl, gp, tab, simprocAttr, reduceCtorEq, reduceIte, ll_length, hli]
            refine fin_run ?_ (hK _ ?_) <;> clear hK <;> clear K
            · (first | exact trivial | omega | (simp only [In64] at *; omega) | (simp [In64] at *; omega) | (simp_all; done) | skip)
            refine qa (qm ?_)
            rcases row3 h (ls.getD i []) (by omega) with hok | ⟨hok, w, hw0, hIs⟩ | ⟨hok, w, hw0, hIs⟩
            · obtain ⟨hrw, hsub⟩ := okR_row G hok
              have hIs := is_ok h (tst (ls.getD i [])) true ⟨fun _ => hsub, fun _ => rfl⟩
              rw [← hrw] at hIs
              refine hk_region fun K hK => runs_eval tab_ok ?_
              simp only [ev0, evA, evB, evP, fl, gp, tab, simprocAttr, reduceCtorEq, reduceIte]
              refine fin_stop trivial (runs_call (hIs) rfl rfl rfl (by simp only [dstOk, Nat.reduceLT]) (by repeat (first | exact trivial | constructor)) (runs_eval tab_ok ?_))
              simp only [ev0, evA, evB, evP, fl, gp, tab, simprocAttr, reduceCtorEq, reduceIte]
              refine fin_run ?_ (hK _ ?_) <;> clear hK <;> clear K
              · (first | exact trivial | omega | (simp only [In64] at *; omega) | (simp [In64] at *; omega) | (simp_all; done) | skip)
              refine qa (qm ?_)
              refine hk_region fun K hK => runs_eval tab_ok ?_
              simp only [ev0, evA, evB, evP, fl, gp, tab, simprocAttr, reduceCtorEq, reduceIte]
              refine fin_run ?_ (hK _ ?_) <;> clear hK <;> clear K
              · (first | exact trivial | omega | (simp only [In64] at *; omega) | (simp [In64] at *; omega) | (simp_all; done) | skip)
              refine qa ?_
              refine hk_cond rfl (fun hC5 => ?_) (fun hC5 => ?_)
              · cases hC5
              · (try simp only [nhs] at hC5)
                refine qh (qd (qa ?_))
                refine hk_region fun K hK => runs_eval tab_ok ?_
                simp only [ev0, evA, evB, evP, fl, gp, tab, simprocAttr, reduceCtorEq, reduceIte]
                refine fin_run ?_ (hK _ ?_) <;> clear hK <;> clear K
                · (first | exact trivial | omega | (simp only [In64] at *; omega) | (simp [In64] at *; omega) | (simp_all; done) | skip)
                refine qa ?_
                refine ⟨i + 1, [0, 1], ⟨by omega, fun j hj => ?_⟩, by omega, ?_⟩
                · by_cases hji : j = i
                  · rw [hji]; exact hok
                  · exact hi2 j (by omega)
                · simp only [leq, leA, ev0, evA, evB, evP, fl, gp, tab, simprocAttr, reduceCtorEq, reduceIte, ll_length] <;> first | trivial | omega
            · refine hk_region fun K hK => runs_eval tab_ok ?_
              simp only [ev0, evA, evB, evP, fl, gp, tab, simprocAttr, reduceCtorEq, reduceIte]
              refine fin_stop trivial (runs_call (hIs) rfl rfl rfl (by simp only [dstOk, Nat.reduceLT]) (by repeat (first | exact trivial | constructor)) (runs_eval tab_ok ?_))
              simp only [ev0, evA, evB, evP, fl, gp, tab, simprocAttr, reduceCtorEq, reduceIte]
              refine fin_run ?_ (hK _ ?_) <;> clear hK <;> clear K
              · (first | exact trivial | omega | (simp only [In64] at *; omega) | (simp [In64] at *; omega) | (simp_all; done) | skip)
              refine qa (qm ?_)
              refine hk_region fun K hK => runs_eval tab_ok ?_
              simp only [ev0, evA, evB, evP, fl, gp, tab, simprocAttr, reduceCtorEq, reduceIte, hw0]
              refine fin_run ?_ (hK _ ?_) <;> clear hK <;> clear K
              · (first | exact trivial | omega | (simp only [In64] at *; omega) | (simp [In64] at *; omega) | (simp_all; done) | skip)
              refine qa ?_
              refine hk_cond rfl (fun hC5 => ?_) (fun hC5 => ?_)
              · (try simp only [nhs] at hC5)
                refine qm ?_
                refine hk_region fun K hK => runs_eval tab_ok ?_
                simp only [ev0, evA, evB, evP, fl, gp, tab, simprocAttr, reduceCtorEq, reduceIte]
                refine fin_stop trivial (runs_call (serFault_c 5 i) rfl rfl rfl (by simp only [dstOk, Nat.reduceLT]) (by repeat (first | exact trivial | constructor)) (runs_eval tab_ok ?_))
                simp only [ev0, evA, evB, evP, fl, gp, tab, simprocAttr, reduceCtorEq, reduceIte]
                refine fin_run ?_ (hK _ ?_) <;> clear hK <;> clear K
                · (first | exact trivial | omega | (simp only [In64] at *; omega) | (simp [In64] at *; omega) | (simp_all; done) | skip)
                refine qa (qk (qe (qb (qb (qe (qb ?_))))))
                simp only [Tryd.results15, enA, ev0, evA, evB, evP, fl, gp, tab, simprocAttr, reduceCtorEq, reduceIte]
                all_goals (rw [fsp_form hz hil hok hi2]; exact ⟨rfl, rfl, rfl⟩)
              · cases hC5
            · refine hk_region fun K hK => runs_eval tab_ok ?_
              simp only [ev0, evA, evB, evP, fl, gp, tab, simprocAttr, reduceCtorEq, reduceIte]
              refine fin_stop trivial (runs_call (hIs) rfl rfl rfl (by simp only [dstOk, Nat.reduceLT]) (by repeat (first | exact trivial | constructor)) (runs_eval tab_ok ?_))
              simp only [ev0, evA, evB, evP, fl, gp, tab, simprocAttr, reduceCtorEq, reduceIte]
              refine fin_run ?_ (hK _ ?_) <;> clear hK <;> clear K
              · (first | exact trivial | omega | (simp only [In64] at *; omega) | (simp [In64] at *; omega) | (simp_all; done) | skip)
              refine qa (qm ?_)
              refine hk_region fun K hK => runs_eval tab_ok ?_
              simp only [ev0, evA, evB, evP, fl, gp, tab, simprocAttr, reduceCtorEq, reduceIte, decide_eq_false hw0]
              refine fin_run ?_ (hK _ ?_) <;> clear hK <;> clear K
              · (first | exact trivial | omega | (simp only [In64] at *; omega) | (simp [In64] at *; omega) | (simp_all; done) | skip)
              refine qa ?_
              refine hk_cond rfl (fun hC5 => ?_) (fun hC5 => ?_)
              · refine qm ?_
                refine hk_region fun K hK => runs_eval tab_ok ?_
                simp only [ev0, evA, evB, evP, fl, gp, tab, simprocAttr, reduceCtorEq, reduceIte]
                refine fin_stop trivial (runs_call (serFault_c 5 i) rfl rfl rfl (by simp only [dstOk, Nat.reduceLT]) (by repeat (first | exact trivial | constructor)) (runs_eval tab_ok ?_))
                simp only [ev0, evA, evB, evP, fl, gp, tab, simprocAttr, reduceCtorEq, reduceIte]
                refine fin_run ?_ (hK _ ?_) <;> clear hK <;> clear K
                · (first | exact trivial | omega | (simp only [In64] at *; omega) | (simp [In64] at *; omega) | (simp_all; done) | skip)
                refine qa (qk (qe (qb (qb (qe (qb ?_))))))
                simp only [Tryd.results15, enA, ev0, evA, evB, evP, fl, gp, tab, simprocAttr, reduceCtorEq, reduceIte]
                all_goals (rw [fsp_form hz hil hok hi2]; exact ⟨rfl, rfl, rfl⟩)
              · cases hC5
          · (try simp only [nhs] at hC4)
            have hin : i = ls.length := by omega
            have ho : Fo n (op m n) e ls := ⟨hz, fun j hj => hi2 j (by omega)⟩
            refine qj (qc (qc (qf (qa (qm ?_)))))
            refine hk_region fun K hK => runs_eval tab_ok ?_
            simp only [ev0, evA, evB, evP, fl, gp, tab, simprocAttr, reduceCtorEq, reduceIte]
            refine fin_run trivial (hK _ ?_) <;> clear hK <;> clear K
            refine qa (qm (qm ?_))
            refine hk_own0 11 rfl ?_
            refine hk_region fun K hK => runs_eval tab_ok ?_
            simp only [ev0, evA, evB, evP, fl, gp, tab, simprocAttr, reduceCtorEq, reduceIte]
            refine fin_run ?_ (hK _ ?_) <;> clear hK <;> clear K
            · (first | exact trivial | omega | (simp only [In64] at *; omega) | (simp [In64] at *; omega) | (simp_all; done) | skip)
            refine qa (ql ?_)
            have htk : List.take (ls.length - 1) (List.drop 1 (ll ls)) = List.drop 1 (ll ls) := List.take_of_length_le (by rw [List.length_drop, ll_length]; exact Nat.le_refl _)
            have hdl : (List.drop 1 (ll ls)).length = ls.length - 1 := by rw [List.length_drop, ll_length]
            have hf0 : facL ls 0 = [] := rfl
            refine hk_loop (ι := Nat) (fun k => ⟨153, [(1, .p (.list (ll ls))), (2, .ptr 0 0), (5, .ptr 1 0), (11, .sl 2 0 (facL ls k).length), (82, .p (.list (List.drop 1 (ll ls)))), (83, .p (.int .i64 ((ls.length - 1 : Nat) : Int))), (84, .p (.int .i64 k))], [.own [.p (.int .i64 n), .p (.list (il m))], .own [.p (.int .i64 0), .p (.int .i64 0)], .own (ol (facL ls k))]⟩) (fun k => k ≤ ls.length - 1 ∧ ∀ j, j < k → Mxn n (op m n) e (tsl ls j) (tsl ls (j + 1))) (fun k => ls.length - k) 0 ⟨Nat.zero_le _, fun j hj => by omega⟩ [0, 1, 2] (by simp only [leq, leA, ev0, evA, evB, evP, fl, gp, tab, simprocAttr, reduceCtorEq, reduceIte, ll_length, htk, hdl, hf0, ol_nil] <;> first | trivial | exact ⟨rfl, rfl⟩ | rfl | omega | trace_state) fun k hk => ?_
            obtain ⟨hk1, hk2⟩ := hk
            have hfl := facL_len ls k
            refine qm ?_
            refine hk_region fun K hK => runs_eval tab_ok ?_
            simp only [ev0, evA, evB, evP, fl, gp, tab, simprocAttr, reduceCtorEq, reduceIte]
            refine fin_run trivial (hK _ ?_) <;> clear hK <;> clear K
            refine qa (qm ?_)
            refine hk_cond rfl (fun hC6 => ?_) (fun hC6 => ?_)
            · (try simp only [nhs] at hC6)
              have hkl : k < ls.length - 1 := by omega
              obtain ⟨hpk, hp⟩ := okR_row G (ho.ok k (by omega))
              obtain ⟨hqk, hq⟩ := okR_row G (ho.ok (k + 1) (by omega))
              have hgk := ll_get (ls := ls) (i := k) (by omega)
              have hgq := ll_get (ls := ls) (i := k + 1) (by omega)
              have hdd : (List.drop 1 (ll ls)).getD k default = (ll ls).getD (k + 1) default := by
                rw [List.getD_eq_getElem?_getD, List.getD_eq_getElem?_getD, List.getElem?_drop, Nat.add_comm]
              have hfs := facL_succ ls k
              have hts : tsl ls k = tst (ls.getD k []) := rfl
              have htq : tsl ls (k + 1) = tst (ls.getD (k + 1) []) := rfl
              rw [← hts] at hpk hp
              rw [← htq] at hqk hq
              clear hts htq
              rw [hgq, hqk] at hdd
              rw [hpk] at hgk
              rw [hpk, hqk] at hfs
              have hst := fsp_step ho hkl (f := op m n)
              generalize hpd : tsl ls k = p at *
              generalize hqd : tsl ls (k + 1) = q at *
              have lp := thl_le n p
              have lq := thl_le n q
              have ep : (thl n p).length = (mem n p).length := thl_len _ _
              have eq' : (thl n q).length = (mem n q).length := thl_len _ _
              have hP := ptb_GT h hp
              refine qh (qa (qm (ql (qm ?_))))
              refine hk_region fun K hK => runs_eval tab_ok ?_
              simp only [ev0, evA, evB, evP, fl, gp, tab, simprocAttr, reduceCtorEq, reduceIte, hdd, hdl]
              refine fin_run ?_ (hK _ ?_) <;> clear hK <;> clear K
              · (first | exact trivial | omega | (simp only [In64] at *; omega) | (simp [In64] at *; omega) | (simp_all; done) | skip)
              refine qa (qm ?_)
              refine hk_draw2 mixed fun K hK => runs2_eval tab_ok ?_
              simp only [evD, ev0, evA, evB, evP, fl, gp, tab, simprocAttr, reduceCtorEq, reduceIte, hgk, ll_length]
              refine fin2_stop ?_ (runs2_call (part_ok h p hp) rfl rfl rfl rfl (by simp only [dstOk, Nat.reduceLT]) (by repeat (first | exact trivial | constructor)) (runs2_eval tab_ok ?_))
              · (first | exact trivial | omega | (simp only [In64] at *; omega) | (simp [In64] at *; omega) | (simp_all; done) | skip)
              simp only [evD, ev0, evA, evB, evP, fl, gp, tab, simprocAttr, reduceCtorEq, reduceIte, hgk, ll_length]
              refine fin2_run ?_ (hK _ _ (by first | kernel_rfl | rfl) ?_) <;> clear hK <;> clear K
              · (first | exact trivial | omega | (simp only [In64] at *; omega) | (simp [In64] at *; omega) | (simp_all; done) | skip)
              refine qa (qm ?_)
              refine hk_region fun K hK => runs_eval tab_ok ?_
              simp only [ev0, evA, evB, evP, fl, gp, tab, simprocAttr, reduceCtorEq, reduceIte]
              refine fin_run trivial (hK _ ?_) <;> clear hK <;> clear K
              refine qa (qm (qm ?_))
              refine hk_own0 16 rfl ?_
              refine hk_region fun K hK => runs_eval tab_ok ?_
              simp only [ev0, evA, evB, evP, fl, gp, tab, simprocAttr, reduceCtorEq, reduceIte, il_length]
              refine fin_run trivial (hK _ ?_) <;> clear hK <;> clear K
              refine qa (ql ?_)
              refine hk_loop (ι := Nat) (fun j => ⟨153, [(1, .p (.list (ll ls))), (2, .ptr 0 0), (5, .ptr 1 0), (11, .sl 2 0 (facL ls k).length), (12, .p (.int .i64 k)), (14, .ptr 3 0), (16, .sl 4 0 (kix p ((thl n q).take j)).length), (82, .p (.list (List.drop 1 (ll ls)))), (83, .p (.int .i64 ((ls.length - 1 : Nat) : Int))), (84, .p (.int .i64 k)), (98, .p (.list (il (thl n q)))), (99, .p (.int .i64 (thl n q).length)), (100, .p (.int .i64 j))], [.own [.p (.int .i64 n), .p (.list (il m))], .own [.p (.int .i64 0), .p (.int .i64 0)], .own (ol (facL ls k)), .own [.p (.int .i64 (thl n p).length), .p (.list (il (ptb n (op m n) p)))], .own (ol (kix p ((thl n q).take j)))]⟩) (fun j => j ≤ (thl n q).length ∧ ∀ i, i < j → p ((thl n q).getD i 0).toNat = true) (fun j => (thl n q).length - j) 0 ⟨Nat.zero_le _, fun j hj => by omega⟩ [0, 1, 2, 3, 5] (by simp only [leq, leA, ev0, evA, evB, evP, fl, gp, tab, simprocAttr, reduceCtorEq, reduceIte] <;> first | trivial | exact ⟨rfl, rfl⟩ | rfl | omega | simp [kix, ol_nil]) fun j hj => ?_
              obtain ⟨hj1, hj2⟩ := hj
              refine qm ?_
              refine hk_region fun K hK => runs_eval tab_ok ?_
              simp only [ev0, evA, evB, evP, fl, gp, tab, simprocAttr, reduceCtorEq, reduceIte]
              refine fin_run trivial (hK _ ?_) <;> clear hK <;> clear K
              refine qa (qm ?_)
              refine hk_cond rfl (fun hC7 => ?_) (fun hC7 => ?_)
              · (try simp only [nhs] at hC7)
                have hjl : j < (thl n q).length := by omega
                obtain ⟨x, x1, x2, x3⟩ := thl_get hjl
                have hkl2 := kix_len p ((thl n q).take j)
                rw [List.length_take] at hkl2
                refine qh (qa (qm (ql (qm ?_))))
                refine hk_region fun K hK => runs_eval tab_ok ?_
                simp only [ev0, evA, evB, evP, fl, gp, tab, simprocAttr, reduceCtorEq, reduceIte, il_get hjl, x3, il_length]
                refine fin_run ?_ (hK _ ?_) <;> clear hK <;> clear K
                · (first | exact trivial | omega | (simp only [In64] at *; omega) | (simp [In64] at *; omega) | (simp_all; done) | skip)
                refine qa (qm ?_)
                by_cases px : p x = true
                · refine hk_region fun K hK => runs_eval tab_ok ?_
                  simp only [ev0, evA, evB, evP, fl, gp, tab, simprocAttr, reduceCtorEq, reduceIte, hgk, ll_length]
                  refine fin_stop ?_ (runs_call (index_c (thl n p) (x : Int) (by omega)) rfl rfl rfl (by simp only [dstOk, Nat.reduceLT]) (by repeat (first | exact trivial | constructor)) (runs_eval tab_ok ?_))
                  · (first | exact trivial | omega | (simp only [In64] at *; omega) | (simp [In64] at *; omega) | (simp_all; done) | skip)
                  simp only [ev0, evA, evB, evP, fl, gp, tab, simprocAttr, reduceCtorEq, reduceIte, ix_pix x1 px, hgk, ll_length]
                  refine fin_run ?_ (hK _ ?_) <;> clear hK <;> clear K
                  · (first | exact trivial | omega | (simp only [In64] at *; omega) | (simp [In64] at *; omega) | (simp_all; done) | skip)
                  refine qa (qm (qm ?_))
                  refine hk_region fun K hK => runs_eval tab_ok ?_
                  simp only [ev0, evA, evB, evP, fl, gp, tab, simprocAttr, reduceCtorEq, reduceIte]
                  refine fin_run trivial (hK _ ?_) <;> clear hK <;> clear K
                  refine qa ?_
                  refine hk_cond rfl (fun hC8 => ?_) (fun hC8 => ?_)
                  · (try simp only [nhs] at hC8)
                    omega
                  · (try simp only [nhs] at hC8)
                    refine qh (qa ?_)
                    refine hk_region fun K hK => runs_eval tab_ok ?_
                    simp only [ev0, evA, evB, evP, fl, gp, tab, simprocAttr, reduceCtorEq, reduceIte]
                    refine fin_run ?_ (hK _ ?_) <;> clear hK <;> clear K
                    · (first | exact trivial | omega | (simp only [In64] at *; omega) | (simp [In64] at *; omega) | (simp_all; done) | skip)
                    refine qd (qa ?_)
                    refine hk_region fun K hK => runs_eval tab_ok ?_
                    simp only [ev0, evA, evB, evP, fl, gp, tab, simprocAttr, reduceCtorEq, reduceIte]
                    refine fin_run ?_ (hK _ ?_) <;> clear hK <;> clear K
                    · (first | exact trivial | omega | (simp only [In64] at *; omega) | (simp [In64] at *; omega) | (simp_all; done) | skip)
                    refine qa ?_
                    refine ⟨j + 1, [0, 1, 2, 3, 5], ⟨by omega, fun i hi => ?_⟩, by omega, ?_⟩
                    · by_cases hij : i = j
                      · rw [hij, x3]; exact px
                      · exact hj2 i (by omega)
                    · rw [kix_succ p hjl, x3, Int.toNat_natCast]
                      simp only [leq, leA, ev0, evA, evB, evP, fl, gp, tab, simprocAttr, reduceCtorEq, reduceIte] <;> first | trivial | omega | (simp only [List.length_append, List.length_cons, List.length_nil]; omega) | exact congrArg ol (List.take_of_length_le (by simp only [List.length_append, List.length_cons, List.length_nil]; omega)).symm | trace_state
                · have pxf : p x = false := by simpa using px
                  refine hk_region fun K hK => runs_eval tab_ok ?_
                  simp only [ev0, evA, evB, evP, fl, gp, tab, simprocAttr, reduceCtorEq, reduceIte, hgk, ll_length]
                  refine fin_stop ?_ (runs_call (index_c (thl n p) (x : Int) (by omega)) rfl rfl rfl (by simp only [dstOk, Nat.reduceLT]) (by repeat (first | exact trivial | constructor)) (runs_eval tab_ok ?_))
                  · (first | exact trivial | omega | (simp only [In64] at *; omega) | (simp [In64] at *; omega) | (simp_all; done) | skip)
                  simp only [ev0, evA, evB, evP, fl, gp, tab, simprocAttr, reduceCtorEq, reduceIte, hgk, ll_length]
                  refine fin_run ?_ (hK _ ?_) <;> clear hK <;> clear K
                  · (first | exact trivial | omega | (simp only [In64] at *; omega) | (simp [In64] at *; omega) | (simp_all; done) | skip)
                  refine qa (qm (qm ?_))
                  refine hk_region fun K hK => runs_eval tab_ok ?_
                  simp only [ev0, evA, evB, evP, fl, gp, tab, simprocAttr, reduceCtorEq, reduceIte]
                  refine fin_run trivial (hK _ ?_) <;> clear hK <;> clear K
                  refine qa ?_
                  refine hk_cond rfl (fun hC8 => ?_) (fun hC8 => ?_)
                  · (try simp only [nhs] at hC8)
                    have hninn : ¬ Inn n p q := fun hh => px (hh x x1 x2)
                    refine qm ?_
                    refine hk_region fun K hK => runs_eval tab_ok ?_
                    simp only [ev0, evA, evB, evP, fl, gp, tab, simprocAttr, reduceCtorEq, reduceIte]
                    refine fin_stop ?_ (runs_call (serFault_c 7 ((k : Int) + 1)) rfl rfl rfl (by simp only [dstOk, Nat.reduceLT]) (by repeat (first | exact trivial | constructor)) (runs_eval tab_ok ?_))
                    · (first | exact trivial | omega | (simp only [In64] at *; omega) | (simp [In64] at *; omega) | (simp_all; done) | skip)
                    simp only [ev0, evA, evB, evP, fl, gp, tab, simprocAttr, reduceCtorEq, reduceIte]
                    refine fin_run ?_ (hK _ ?_) <;> clear hK <;> clear K
                    · (first | exact trivial | omega | (simp only [In64] at *; omega) | (simp [In64] at *; omega) | (simp_all; done) | skip)
                    refine qa (qk (qb (qe (qb (qb (qe (qb (qe (qb (qb (qe (qb ?_))))))))))))
                    simp only [Tryd.results15, enA, ev0, evA, evB, evP, fl, gp, tab, simprocAttr, reduceCtorEq, reduceIte]
                    all_goals (rw [hst (fun hh => hninn fun x hx qx => hh.le x hx qx) hk2, stF_7 hninn]; exact ⟨rfl, rfl, rfl⟩)
                  · (try simp only [nhs] at hC8)
                    exact absurd (ix_out x1 pxf) hC8
              · (try simp only [nhs] at hC7)
                have hjn : j = (thl n q).length := by omega
                have hinn : Inn n p q := fun x hx qx => by
                  obtain ⟨i, i1, i2⟩ := thl_at hx qx
                  have := hj2 i (by omega)
                  rwa [i2, Int.toNat_natCast] at this
                have hka := kix_all hinn
                have ds := dwn_sub2 h hp hq
                rw [hjn, List.take_length, hka]
                refine hk_seal 16 4 rfl rfl ?_
                refine qj (qc (qc (qf (qa (qm ?_)))))
                by_cases hN : Nin n (op m n) e p q
                · have dn := (dwn_nml2 h hp hinn).2 hN
                  have hQuo := quotient_ok hP (dwn n p q) ds dn
                  obtain ⟨φ, d, hQ, hH, hker, hnum⟩ := step_gt h hp hq hinn hN
                  have hmx := hH.mxn_iff G hq hker
                  obtain ⟨cw, hcw⟩ := cwx (cst (thl n p).length (Qr n m e p q)).length (op (qtb (thl n p).length (op (ptb n (op m n) p) (thl n p).length) (Qr n m e p q)) (cst (thl n p).length (Qr n m e p q)).length) d
                  obtain ⟨b, hbs⟩ := truth (SimP (cst (thl n p).length (Qr n m e p q)).length d cw (cst (thl n p).length (Qr n m e p q)).length)
                  have hSim := simple_ok hQ cw hcw b hbs
                  rw [simP_mxn hQ.2.2 cw hcw, ← hmx] at hbs
                  have hqpos := hq.pos G.el
                  have hdiv : (thl n p).length / (thl n q).length = (cst (thl n p).length (Qr n m e p q)).length := by
                    exact Nat.div_eq_of_eq_mul_left (by omega) (by rw [eq']; exact ep.trans hnum.symm)
                  rw [hdiv] at hfs
                  have hKle : (cst (thl n p).length (Qr n m e p q)).length ≤ (thl n p).length := cstp_len _ _ _
                  refine hk_region fun K hK => runs_eval tab_ok ?_
                  simp only [ev0, evA, evB, evP, fl, gp, tab, simprocAttr, reduceCtorEq, reduceIte]
                  refine fin_stop trivial (runs_call (hQuo) rfl rfl rfl (by simp only [dstOk, Nat.reduceLT]) (by repeat (first | exact trivial | constructor)) (runs_eval tab_ok ?_))
                  simp only [ev0, evA, evB, evP, fl, gp, tab, simprocAttr, reduceCtorEq, reduceIte]
                  refine fin_run ?_ (hK _ ?_) <;> clear hK <;> clear K
                  · (first | exact trivial | omega | (simp only [In64] at *; omega) | (simp [In64] at *; omega) | (simp_all; done) | skip)
                  refine qa (qm (qm ?_))
                  refine hk_region fun K hK => runs_eval tab_ok ?_
                  simp only [ev0, evA, evB, evP, fl, gp, tab, simprocAttr, reduceCtorEq, reduceIte]
                  refine fin_run ?_ (hK _ ?_) <;> clear hK <;> clear K
                  · (first | exact trivial | omega | (simp only [In64] at *; omega) | (simp [In64] at *; omega) | (simp_all; done) | skip)
                  refine qa ?_
                  refine hk_cond rfl (fun hC9 => ?_) (fun hC9 => ?_)
                  · cases hC9
                  · (try simp only [nhs] at hC9)
                    refine qh (qa (qm (qm ?_)))
                    refine hk_region fun K hK => runs_eval tab_ok ?_
                    simp only [ev0, evA, evB, evP, fl, gp, tab, simprocAttr, reduceCtorEq, reduceIte]
                    refine fin_stop trivial (runs_call (hSim) rfl rfl rfl (by simp only [dstOk, Nat.reduceLT]) (by repeat (first | exact trivial | constructor)) (runs_eval tab_ok ?_))
                    simp only [ev0, evA, evB, evP, fl, gp, tab, simprocAttr, reduceCtorEq, reduceIte]
                    refine fin_run ?_ (hK _ ?_) <;> clear hK <;> clear K
                    · (first | exact trivial | omega | (simp only [In64] at *; omega) | (simp [In64] at *; omega) | (simp_all; done) | skip)
                    refine qa (qm ?_)
                    refine hk_region fun K hK => runs_eval tab_ok ?_
                    simp only [ev0, evA, evB, evP, fl, gp, tab, simprocAttr, reduceCtorEq, reduceIte]
                    refine fin_run trivial (hK _ ?_) <;> clear hK <;> clear K
                    refine qa ?_
                    refine hk_cond rfl (fun hC10 => ?_) (fun hC10 => ?_)
                    · (try simp only [nhs] at hC10)
                      have hbf : b = false := by simpa using hC10
                      have hno : ¬ Mxn n (op m n) e p q := fun hh => by rw [hbs.2 hh] at hbf; cases hbf
                      refine qm ?_
                      refine hk_region fun K hK => runs_eval tab_ok ?_
                      simp only [ev0, evA, evB, evP, fl, gp, tab, simprocAttr, reduceCtorEq, reduceIte]
                      refine fin_stop ?_ (runs_call (serFault_c 6 ((k : Int) + 1)) rfl rfl rfl (by simp only [dstOk, Nat.reduceLT]) (by repeat (first | exact trivial | constructor)) (runs_eval tab_ok ?_))
                      · (first | exact trivial | omega | (simp only [In64] at *; omega) | (simp [In64] at *; omega) | (simp_all; done) | skip)
                      simp only [ev0, evA, evB, evP, fl, gp, tab, simprocAttr, reduceCtorEq, reduceIte]
                      refine fin_run ?_ (hK _ ?_) <;> clear hK <;> clear K
                      · (first | exact trivial | omega | (simp only [In64] at *; omega) | (simp [In64] at *; omega) | (simp_all; done) | skip)
                      refine qa (qk (qb (qe (qb (qb (qe (qb ?_)))))))
                      simp only [Tryd.results15, enA, ev0, evA, evB, evP, fl, gp, tab, simprocAttr, reduceCtorEq, reduceIte]
                      all_goals (rw [hst hno hk2, stF_6 hinn hN]; exact ⟨rfl, rfl, rfl⟩)
                    · (try simp only [nhs] at hC10)
                      have hbt : b = true := by simpa using hC10
                      have hyes := hbs.1 hbt
                      have hKQ : (((cst (thl n p).length (Qr n m e p q)).length : Nat) : Int) = ((cst (thl n p).length (Go.Proofs.YtjbfkdaodfdpcaaDoor.dco (thl n p).length (op (ptb n (op m n) p) (thl n p).length) (dwn n p q) (onp (pix p e)))).length : Int) := rfl
                      refine qh (qa ?_)
                      refine hk_region fun K hK => runs_eval tab_ok ?_
                      simp only [ev0, evA, evB, evP, fl, gp, tab, simprocAttr, reduceCtorEq, reduceIte]
                      refine fin_run ?_ (hK _ ?_) <;> clear hK <;> clear K
                      · (first | exact trivial | omega | (simp only [In64] at *; omega) | (simp [In64] at *; omega) | (simp_all; done) | skip)
                      refine qd (qa ?_)
                      refine hk_region fun K hK => runs_eval tab_ok ?_
                      simp only [ev0, evA, evB, evP, fl, gp, tab, simprocAttr, reduceCtorEq, reduceIte]
                      refine fin_run ?_ (hK _ ?_) <;> clear hK <;> clear K
                      · (first | exact trivial | omega | (simp only [In64] at *; omega) | (simp [In64] at *; omega) | (simp_all; done) | skip)
                      refine qa ?_
                      refine ⟨k + 1, [0, 1, 8], ⟨by omega, fun j hj => ?_⟩, by omega, ?_⟩
                      · by_cases hjk : j = k
                        · rw [hjk, hpd, hqd]; exact hyes
                        · exact hk2 j (by omega)
                      · rw [hfs, hKQ]
                        simp only [leq, leA, ev0, evA, evB, evP, fl, gp, tab, simprocAttr, reduceCtorEq, reduceIte, ll_length, htk, hdl] <;> first | trivial | omega | (simp only [List.length_append, List.length_cons, List.length_nil]; omega) | exact congrArg ol (List.take_of_length_le (by simp only [List.length_append, List.length_cons, List.length_nil]; omega)).symm | trace_state
                · have hQuo := quotient_w (thl n p).length (ptb n (op m n) p) (thl (thl n p).length (dwn n p q)) (4, 0) (quotN_ok hP (dwn n p q) ds false (by simp [dwn_nml2 h hp hinn, hN])) (by simp)
                  refine hk_region fun K hK => runs_eval tab_ok ?_
                  simp only [ev0, evA, evB, evP, fl, gp, tab, simprocAttr, reduceCtorEq, reduceIte]
                  refine fin_stop trivial (runs_call (hQuo) rfl rfl rfl (by simp only [dstOk, Nat.reduceLT]) (by repeat (first | exact trivial | constructor)) (runs_eval tab_ok ?_))
                  simp only [ev0, evA, evB, evP, fl, gp, tab, simprocAttr, reduceCtorEq, reduceIte]
                  refine fin_run ?_ (hK _ ?_) <;> clear hK <;> clear K
                  · (first | exact trivial | omega | (simp only [In64] at *; omega) | (simp [In64] at *; omega) | (simp_all; done) | skip)
                  refine qa (qm (qm ?_))
                  refine hk_region fun K hK => runs_eval tab_ok ?_
                  simp only [ev0, evA, evB, evP, fl, gp, tab, simprocAttr, reduceCtorEq, reduceIte]
                  refine fin_run ?_ (hK _ ?_) <;> clear hK <;> clear K
                  · (first | exact trivial | omega | (simp only [In64] at *; omega) | (simp [In64] at *; omega) | (simp_all; done) | skip)
                  refine qa ?_
                  refine hk_cond rfl (fun hC9 => ?_) (fun hC9 => ?_)
                  · (try simp only [nhs] at hC9)
                    refine qm ?_
                    refine hk_region fun K hK => runs_eval tab_ok ?_
                    simp only [ev0, evA, evB, evP, fl, gp, tab, simprocAttr, reduceCtorEq, reduceIte]
                    refine fin_stop ?_ (runs_call (serFault_c 4 ((k : Int) + 1)) rfl rfl rfl (by simp only [dstOk, Nat.reduceLT]) (by repeat (first | exact trivial | constructor)) (runs_eval tab_ok ?_))
                    · (first | exact trivial | omega | (simp only [In64] at *; omega) | (simp [In64] at *; omega) | (simp_all; done) | skip)
                    simp only [ev0, evA, evB, evP, fl, gp, tab, simprocAttr, reduceCtorEq, reduceIte]
                    refine fin_run ?_ (hK _ ?_) <;> clear hK <;> clear K
                    · (first | exact trivial | omega | (simp only [In64] at *; omega) | (simp [In64] at *; omega) | (simp_all; done) | skip)
                    refine qa (qk (qb (qe (qb (qb (qe (qb ?_)))))))
                    simp only [Tryd.results15, enA, ev0, evA, evB, evP, fl, gp, tab, simprocAttr, reduceCtorEq, reduceIte]
                    all_goals (rw [hst (fun hh => hN fun a x ha hx pa qx => hh.nml a x ha hx pa qx) hk2, stF_4 hinn hN]; exact ⟨rfl, rfl, rfl⟩)
                  · cases hC9
            · (try simp only [nhs] at hC6)
              have hkl : k = ls.length - 1 := by omega
              have hsort := sortI_m Go.Proofs.Tryd.sortI (facL ls k) (by omega)
              have hsp := fsp_ok ho fun j hj => hk2 j (by omega)
              refine qj (qc (qc (qf (qa (qm ?_)))))
              refine hk_region fun K hK => runs_eval tab_ok ?_
              simp only [ev0, evA, evB, evP, fl, gp, tab, simprocAttr, reduceCtorEq, reduceIte]
              refine fin_stop ?_ (runs_callM [2] (hsort) rfl rfl ?_ (by simp only [leA, ev0, evA, evB, evP, fl, gp, tab, simprocAttr, reduceCtorEq, reduceIte]; first | trivial | (simp only [ll_takeL]; first | trivial | (repeat constructor; done)) | (repeat constructor)) (by decide) (by first | rfl | (simp only [List.length_cons, List.length_nil, List.length_append]; decide)) (by first | rfl | (simp only [scM, opl_sc, List.all_cons, List.all_nil, List.length_cons, List.length_nil]; first | rfl | decide) | (simp [scM, scA, sc1, mpKeep, notAnc]; done)) (by simp only [dstOk, Nat.reduceLT]) (runs_eval tab_ok ?_))
              · (first | exact trivial | omega | (simp only [In64] at *; omega) | (simp [In64] at *; omega) | (simp_all; done) | skip)
              · (simp only [argsM, argM1, peekG, peekS, scA, sc1, ren, ren1, List.map_cons, List.map_nil, List.append_nil, List.cons_append, List.nil_append, enA, ev0, evA, evB, evP, fl, gp, tab, simprocAttr, reduceCtorEq, reduceIte]; try trivial)
              simp only [putM, hset, List.range', Blk.ren, ren, ren1, List.map_cons, List.map_nil, List.cons_append, List.nil_append, List.append_nil, List.length_cons, List.length_nil, ev0, evA, evB, evP, fl, gp, tab, simprocAttr, reduceCtorEq, reduceIte]
              refine fin_run trivial (hK _ ?_) <;> clear hK <;> clear K
              refine qa (qm ?_)
              refine hk_region fun K hK => runs_eval tab_ok ?_
              simp only [ev0, evA, evB, evP, fl, gp, tab, simprocAttr, reduceCtorEq, reduceIte]
              refine fin_run ?_ (hK _ ?_) <;> clear hK <;> clear K
              · (first | exact trivial | omega | (simp only [In64] at *; omega) | (simp [In64] at *; omega) | (simp_all; done) | skip)
              refine qa (qk ?_)
              simp only [Tryd.results15, enA, ev0, evA, evB, evP, fl, gp, tab, simprocAttr, reduceCtorEq, reduceIte]
              all_goals (rw [hsp, List.take_of_length_le (by rw [srt_len]; exact Nat.le_refl _), hkl, srt_len]; exact ⟨Nat.le_refl _, rfl, rfl, rfl⟩)
      · refine hk_draw mixed (by kernel_rfl) fun K hK => runs_eval tab_ok ?_
        simp only [ev0, evA, evB, evP, fl, gp, tab, simprocAttr, reduceCtorEq, reduceIte, ll_length, hl0, il_length, decide_eq_false (show ¬ (((ls.getD 0 []).length : Nat) : Int) = (n : Int) by omega)]
        refine fin_run ?_ (hK _ ?_) <;> clear hK <;> clear K
        · (first | exact trivial | omega | (simp only [In64] at *; omega) | (simp [In64] at *; omega) | (simp_all; done) | skip)
        refine qa ?_
        refine hk_cond rfl (fun hC3 => ?_) (fun hC3 => ?_)
        · have hsz := fsp_size (f := op m n) (e := e) hw (.inl k6)
          refine qm ?_
          refine hk_region fun K hK => runs_eval tab_ok ?_
          simp only [ev0, evA, evB, evP, fl, gp, tab, simprocAttr, reduceCtorEq, reduceIte]
          refine fin_stop trivial (runs_call (serFault_c 8 0) rfl rfl rfl (by simp only [dstOk, Nat.reduceLT]) (by repeat (first | exact trivial | constructor)) (runs_eval tab_ok ?_))
          simp only [ev0, evA, evB, evP, fl, gp, tab, simprocAttr, reduceCtorEq, reduceIte]
          refine fin_run ?_ (hK _ ?_) <;> clear hK <;> clear K
          · (first | exact trivial | omega | (simp only [In64] at *; omega) | (simp [In64] at *; omega) | (simp_all; done) | skip)
          refine qa (qk (qb ?_))
          simp only [Tryd.results15, enA, ev0, evA, evB, evP, fl, gp, tab, simprocAttr, reduceCtorEq, reduceIte]
          all_goals (rw [hsz]; exact ⟨rfl, rfl, rfl⟩)
        · cases hC3
end
end Go.Proofs.YtjbfkdaodfdpcaaDoor

/-
  Arguments of a law, opened: rows of rows of numbers. Conditions: none; a library text.
-/
set_option linter.all false
namespace Go.Pv
open Go.RowKit Go.ChangeShapes Go.WideShapes Go.ChangeAt

section
variable {H : Type} {enc : TypeId × Value → H} {P : Program}
end
end Go.Pv

/-
  Walks: the law SeriesJordan. Conditions: none.
-/
set_option linter.all false
namespace Go.Proofs.YtjbfkdaodfdpcaaDoor
open Go.Pv

section
variable {n e : Nat} {f : Nat → Nat → Nat}
/-- The chain that a list of sets tells. -/
def tlc (T : Nat → Nat → Bool) (i : Nat) : Nat → List (Nat → Bool)
  | 0 => []
  | k + 1 => T (i + 1) :: tlc T (i + 1) k
theorem tlc_chn {T : Nat → Nat → Bool} : ∀ (k i : Nat), (∀ j, i ≤ j → j < i + k → Mxn n f e (T j) (T (j + 1))) → (∀ x, x < n → T (i + k) x = true → x = e) → Chn n f e (T i) (tlc T i k)
  | 0, i, _, h => h
  | k + 1, i, hm, h => ⟨hm i (Nat.le_refl _) (by omega), tlc_chn k (i + 1) (fun j h1 h2 => hm j (by omega) (by omega)) fun x hx hh => h x hx (by rwa [show i + (k + 1) = i + 1 + k by omega])⟩
theorem tlc_idx (T : Nat → Nat → Bool) : ∀ (k i : Nat), (idx n (T i) (tlc T i k)) = (List.range k).map fun j => (mem n (T (i + j))).length / (mem n (T (i + j + 1))).length
  | 0, i => rfl
  | k + 1, i => by
    show _ :: idx n (T (i + 1)) (tlc T (i + 1) k) = _
    rw [tlc_idx T k (i + 1), List.range_succ_eq_map, List.map_cons, List.map_map]
    congr 1
    refine List.map_congr_left fun j _ => ?_
    show _ = (mem n (T (i + (j + 1)))).length / (mem n (T (i + (j + 1) + 1))).length
    rw [show i + 1 + j = i + (j + 1) by omega]
theorem tlc_len (T : Nat → Nat → Bool) : ∀ (k i : Nat), (tlc T i k).length = k
  | 0, _ => rfl
  | k + 1, i => by show (tlc T (i + 1) k).length + 1 = _; rw [tlc_len T k]
/-- What a list of sets without a fault tells: a chain; its factors. -/
theorem fsp_chn (G : Grp n f e) {ls : List (List Int)} (h : (fsp n f e ls).2.1 = 0) : Chn n f e (fun _ => true) (tlc (tsl ls) 0 (ls.length - 1)) ∧ (fsp n f e ls) = (srt ((idx n (fun _ => true) (tlc (tsl ls) 0 (ls.length - 1))).map fun (k : Nat) => (k : Int)), (0, 0)) := by
  obtain ⟨ho, hm⟩ := fsp_good h
  have hlo := ho.lo
  have h0 : ∀ x, x < n → tsl ls 0 x = true := by
    obtain ⟨h1, h2⟩ := okR_row G (ho.ok 0 (by omega))
    have h3 := ho.first
    rw [h1, thl_len] at h3
    have : (mem n (tsl ls 0)).length = n := by
      have e1 : (thl n (tsl ls 0)).length = (mem n (tsl ls 0)).length := thl_len _ _
      rw [← e1, thl_len]; exact h3
    exact mem_all.1 this
  have hrow : ∀ i, i < ls.length → (ls.getD i []).length = (mem n (tsl ls i)).length := fun i hi => by
    obtain ⟨h1, h2⟩ := okR_row G (ho.ok i hi)
    have e1 : (thl n (tsl ls i)).length = (mem n (tsl ls i)).length := thl_len _ _
    rw [h1]; exact e1
  have hsubZ : Sub n f e (tsl ls (ls.length - 1)) := (okR_row G (ho.ok (ls.length - 1) (by omega))).2
  have hlast : ∀ x, x < n → tsl ls (0 + (ls.length - 1)) x = true → x = e := fun x hx hh => by
    rw [Nat.zero_add] at hh
    refine one_mem G.el hsubZ.one ?_ hx hh
    rw [← hrow _ (by omega)]; exact ho.last
  have hc := tlc_chn (n := n) (f := f) (e := e) (T := tsl ls) (ls.length - 1) 0 (fun j _ h2 => hm j (by omega)) hlast
  obtain ⟨c1, c2⟩ := Chn.congr (p' := fun _ => true) (fun x hx => (h0 x hx).symm) hc
  refine ⟨c1, ?_⟩
  rw [fsp_ok ho hm, c2, tlc_idx, List.map_map]
  congr 2
  unfold facL
  refine List.map_congr_left fun j hj => ?_
  have hjl := List.mem_range.1 hj
  show _ = (((mem n (tsl ls (0 + j))).length / (mem n (tsl ls (0 + j + 1))).length : Nat) : Int)
  rw [Nat.zero_add, hrow j (by omega), hrow (j + 1) (by omega)]
/-- A composition series has no fault. -/
theorem cps_fsp (G : Grp n f e) {T : Nat → Nat → Bool} {Z : Nat} (hC : Cps n f e T Z) : (fsp n f e (cht n T Z)).2.1 = 0 := by
  have hlen := cht_len n T Z
  have hg : ∀ i, i ≤ Z → (cht n T Z).getD i [] = thl n (T i) := fun i hi => cht_get hi
  have hZ := hC.short
  have hts : ∀ i, i ≤ Z → tsl (cht n T Z) i = tst (thl n (T i)) := fun i hi => by unfold tsl; rw [hg i hi]
  have ho : Fo n f e (cht n T Z) := by
    refine ⟨⟨⟨by omega, by omega⟩, ?_, ?_⟩, fun i hi => ?_⟩
    · rw [hg 0 (Nat.zero_le _), hC.all]
      have e1 : (thl n fun _ => true).length = (mem n fun _ => true).length := thl_len _ _
      rw [e1, mem_true]
    · rw [hlen, Nat.add_sub_cancel, hg Z (Nat.le_refl _)]; exact hC.last
    · rw [hg i (by omega)]; exact (okR_thl G).2 (hC.sub i (by omega))
  have hm : ∀ j, j < (cht n T Z).length - 1 → Mxn n f e (tsl (cht n T Z) j) (tsl (cht n T Z) (j + 1)) := fun j hj => by
    have hjZ : j < Z := by omega
    rw [hts j (by omega), hts (j + 1) (by omega)]
    have hM := hC.mxn j hjZ
    have hsub : Sub n f e (tst (thl n (T (j + 1)))) := by
      have := (okR_row G (ho.ok (j + 1) (by omega))).2
      rwa [hg (j + 1) (by omega)] at this
    exact (hM.congr_r G hsub fun x hx => tst_thlF hx).congr_l fun x hx => tst_thlF hx
  rw [fsp_ok ho hm]
end
section
variable {n e : Nat} {m : List Int}
theorem cht_rows (T : Nat → Nat → Bool) (Z : Nat) : ∀ w ∈ cht n T Z, w.length ≤ n := fun w hw => by
  obtain ⟨i, hi, rfl⟩ := List.getElem_of_mem hw
  have hlen := cht_len n T Z
  have h1 : (cht n T Z).getD i [] = thl n (T i) := cht_get (by omega)
  have h2 : (cht n T Z)[i] = (cht n T Z).getD i [] := by simp [List.getD, List.getElem?_eq_getElem hi]
  rw [h2, h1]; exact thl_le n _
end
end Go.Proofs.YtjbfkdaodfdpcaaDoor

/-
  Calls that hand out fresh rows of plain values; functions with captured rows of the call's own. Conditions: none.
-/
set_option linter.all false
namespace Go.Pv
open Go.RowKit

section
variable {P : Program} {s : St}

/-- A contract whose result lies in memory that is new: whatever the arguments may be. -/
def FnF (P : Program) (f : FuncId) (args : List PV) (r : PV) : Prop :=
  Fun P f ∧ ∀ (okA : Nat → Prop) (w : World) (vals : Array Value), LaidW okA w → vals.size = args.length → (∀ i (h : i < args.length), Reads okA w args[i] (vals.getD i undef)) →
    Calls P f vals w fun e w' => ∃ v, e = .returned v ∧ Go.Pv.Below w.heap.size w w' ∧ Reads (fun b => w.heap.size ≤ b ∧ b < w'.heap.size) w' r v

/-- Plain data: no memory. -/
def PV.sc : PV → Bool
  | .int _ _ => true
  | .bool _ => true
  | .str _ => true
  | _ => false

end

end Go.Pv
namespace Go.Proofs.YtjbfkdaodfdpcaaDoor
open Go.Pv

end Go.Proofs.YtjbfkdaodfdpcaaDoor

/-
  Walks: the law SeriesGo. Conditions: none.
-/
set_option linter.all false
namespace Go.Proofs.YtjbfkdaodfdpcaaDoor
open Go.Pv

section
variable {n e : Nat} {m : List Int}

theorem solvable_ok (h : GT n m n e) (nx : (Nat → Bool) → Nat → Bool) (hnx : ∀ p a, a < n → (nx p a = true ↔ Gen n (op m n) e (dnp n (op m n) e p p) a)) (Z : Nat) (hZ : Z ≤ n) (hS : Stp n (itr nx fun _ => true) Z) :
    FnC Tryd.prog 23 [gp n m] (.tup [.bool (decide (((thl n (itr nx (fun _ => true) Z)).length : Int) = 1)), fl (0, 0)]) := by
  have hb := h.2.1.big
  have hl := cht_len n (itr nx fun _ => true) Z
  have hg : (cht n (itr nx fun _ => true) Z).getD Z [] = thl n (itr nx (fun _ => true) Z) := cht_get (Nat.le_refl _)
  refine fnc_of tab_ok Tryd.func23 rfl (by kernel_rfl) (by rw [Tryd.ntmps23]; exact Nat.le_add_left 1 _) ?_; rw [Tryd.ntmps23]
  refine qm ?_
  refine hk_region fun K hK => runs_eval tab_ok ?_
  simp only [ev0, evA, evB, evP, fl, gp, tab, simprocAttr, reduceCtorEq, reduceIte]
  refine fin_run ?_ (hK _ ?_) <;> clear hK <;> clear K
  · (first | exact trivial | omega | (simp only [In64] at *; omega) | (simp [In64] at *; omega) | (simp_all; done) | skip)
  refine qa (qm ?_)
  refine hk_region fun K hK => runs_eval tab_ok ?_
  simp only [ev0, evA, evB, evP, fl, gp, tab, simprocAttr, reduceCtorEq, reduceIte]
  refine fin_stop trivial (runs_call (derived_ok h nx hnx Z hZ hS) rfl rfl rfl (by simp only [dstOk, Nat.reduceLT]) (by repeat (first | exact trivial | constructor)) (runs_eval tab_ok ?_))
  simp only [ev0, evA, evB, evP, fl, gp, tab, simprocAttr, reduceCtorEq, reduceIte]
  refine fin_run ?_ (hK _ ?_) <;> clear hK <;> clear K
  · (first | exact trivial | omega | (simp only [In64] at *; omega) | (simp [In64] at *; omega) | (simp_all; done) | skip)
  refine qa (qm ?_)
  refine hk_draw mixed (by kernel_rfl) fun K hK => runs_eval tab_ok ?_
  simp only [ev0, evA, evB, evP, fl, gp, tab, simprocAttr, reduceCtorEq, reduceIte, ll_length, hl, Int.add_sub_cancel, ll_get (show Z < (cht n (itr nx fun _ => true) Z).length by omega), hg, il_length]
  refine fin_run ?_ (hK _ ?_) <;> clear hK <;> clear K
  · simp only [In64, ll_length]; omega
  refine qa (qk ?_)
  simp only [Tryd.results23, enA, ev0, evA, evB, evP, fl, gp, tab, simprocAttr, reduceCtorEq, reduceIte]
  all_goals ((first | exact rfl | exact ⟨rfl, rfl⟩ | exact ⟨rfl, rfl, rfl⟩ | exact ⟨trivial, rfl⟩ | exact ⟨Nat.le_refl _, rfl⟩ | trivial | (simp; done)))
theorem solvable_no (N : Int) (m : List Int) (hm : m.length ≤ 1000000000000000) (hf : ¬ (gf N m).1 = 0) : FnC Tryd.prog 23 [gp N m] (.tup [.bool false, fl (gf N m)]) := by
  refine fnc_of tab_ok Tryd.func23 rfl (by kernel_rfl) (by rw [Tryd.ntmps23]; exact Nat.le_add_left 1 _) ?_; rw [Tryd.ntmps23]
  refine qm ?_
  refine hk_region fun K hK => runs_eval tab_ok ?_
  simp only [ev0, evA, evB, evP, fl, gp, tab, simprocAttr, reduceCtorEq, reduceIte]
  refine fin_run ?_ (hK _ ?_) <;> clear hK <;> clear K
  · (first | exact trivial | omega | (simp only [In64] at *; omega) | (simp [In64] at *; omega) | (simp_all; done) | skip)
  refine qa (qm ?_)
  refine hk_region fun K hK => runs_eval tab_ok ?_
  simp only [ev0, evA, evB, evP, fl, gp, tab, simprocAttr, reduceCtorEq, reduceIte]
  refine fin_stop trivial (runs_call (derived_no N m hm hf) rfl rfl rfl (by simp only [dstOk, Nat.reduceLT]) (by repeat (first | exact trivial | constructor)) (runs_eval tab_ok ?_))
  simp only [ev0, evA, evB, evP, fl, gp, tab, simprocAttr, reduceCtorEq, reduceIte]
  refine fin_run ?_ (hK _ ?_) <;> clear hK <;> clear K
  · (first | exact trivial | omega | (simp only [In64] at *; omega) | (simp [In64] at *; omega) | (simp_all; done) | skip)
  refine qa (qm ?_)
  refine hk_draw mixed (by kernel_rfl) fun K hK => runs_eval tab_ok ?_
  simp only [ev0, evA, evB, evP, fl, gp, tab, simprocAttr, reduceCtorEq, reduceIte, decide_eq_false hf]
  refine fin_run ?_ (hK _ ?_) <;> clear hK <;> clear K
  · (first | exact trivial | omega | (simp only [In64] at *; omega) | (simp [In64] at *; omega) | (simp_all; done) | skip)
  refine qa (qk ?_)
  simp only [Tryd.results23, enA, ev0, evA, evB, evP, fl, gp, tab, simprocAttr, reduceCtorEq, reduceIte]
  all_goals ((first | exact rfl | exact ⟨rfl, rfl⟩ | exact ⟨rfl, rfl, rfl⟩ | exact ⟨trivial, rfl⟩ | exact ⟨Nat.le_refl _, rfl⟩ | trivial | (simp; done)))
/-! ### The document's series -/

end
end Go.Proofs.YtjbfkdaodfdpcaaDoor

/-
  How many bits are set: by sums of neighbours. Conditions: none.
-/
set_option linter.all false
namespace Go.Proofs.YtjbfkdaodfdpcaaDoor
open Go.Pv

def msk8 (c : Nat) : Nat → Nat
  | 0 => 0
  | k + 1 => c + 256 * msk8 c k
def p1 (M x : Nat) : Nat := (x / 2 &&& M) + (x &&& M)
def p2 (M x : Nat) : Nat := (x / 4 &&& M) + (x &&& M)
def p3 (M x : Nat) : Nat := (x / 16 + x) &&& M
def pT (k x : Nat) : Nat := p3 (msk8 15 k) (p2 (msk8 51 k) (p1 (msk8 85 k) x))
def pM (k x : Nat) : Nat := p2 (msk8 51 k) (p1 (msk8 85 k) x)
def cnt (k x : Nat) : Nat := ((List.range k).filter x.testBit).length
def pcf (x : Nat) : Nat :=
  let y := pT 8 x
  let y4 := y + y / 256
  let y5 := y4 + y4 / 65536
  let y6 := y5 + y5 / 4294967296
  y6 % 128
theorem dv {a B q : Nat} (h : a < B) : (a + B * q) / B = q := by
  rw [Nat.add_mul_div_left _ _ (Nat.lt_of_le_of_lt (Nat.zero_le _) h), Nat.div_eq_of_lt h, Nat.zero_add]
theorem l3 {E0 E1 E2 E3 : Nat} (h0 : E0 ≤ 5000) (h1 : E1 ≤ 5000) (h2 : E2 ≤ 5000) (h3 : E3 ≤ 5000) :
    let y4 := E0 + 65536 * (E1 + 65536 * (E2 + 65536 * E3))
    let y5 := y4 + y4 / 65536
    (y5 + y5 / 4294967296) % 128 = (E0 + E1 + E2 + E3) % 128 := by
  intro y4 y5
  have a1 : y4 / 65536 = E1 + 65536 * (E2 + 65536 * E3) := dv (by omega)
  have a2 : y5 = ((E0 + E1) + 65536 * (E1 + E2)) + 4294967296 * ((E2 + E3) + 65536 * E3) := by
    show y4 + y4 / 65536 = _
    rw [a1]; show E0 + 65536 * (E1 + 65536 * (E2 + 65536 * E3)) + _ = _
    omega
  have a3 : y5 / 4294967296 = (E2 + E3) + 65536 * E3 := by rw [a2]; exact dv (by omega)
  rw [a3, a2]
  omega
theorem l1 {d0 d1 d2 d3 d4 d5 d6 d7 : Nat} : d0 + 256 * (d1 + 256 * (d2 + 256 * (d3 + 256 * (d4 + 256 * (d5 + 256 * (d6 + 256 * d7)))))) + (d1 + 256 * (d2 + 256 * (d3 + 256 * (d4 + 256 * (d5 + 256 * (d6 + 256 * d7)))))) =
    (d0 + d1 + 256 * (d1 + d2)) + 65536 * ((d2 + d3 + 256 * (d3 + d4)) + 65536 * ((d4 + d5 + 256 * (d5 + d6)) + 65536 * (d6 + d7 + 256 * d7))) := by
  omega

end Go.Proofs.YtjbfkdaodfdpcaaDoor

/-
  How many bits are set; lists compared. Conditions: none.
-/
set_option linter.all false
namespace Go.Proofs.YtjbfkdaodfdpcaaDoor
open Go.Pv

/-! ### Lists, compared -/

def cmpi (x y : Int) : Int := if x < y then -1 else if y < x then 1 else 0
def cmpL : List Int → List Int → Int
  | [], [] => 0
  | [], _ :: _ => -1
  | _ :: _, [] => 1
  | x :: v, y :: w => if cmpi x y = 0 then cmpL v w else cmpi x y
/-! ### An order -/

theorem cmpi_eq {x y : Int} : cmpi x y = 0 ↔ x = y := by
  unfold cmpi
  by_cases h1 : x < y
  · simp [h1]; omega
  · by_cases h2 : y < x
    · simp [h1, h2]; omega
    · simp [h1, h2]; omega
theorem cmpL_self : ∀ v : List Int, cmpL v v = 0
  | [] => rfl
  | x :: v => by show (if cmpi x x = 0 then cmpL v v else cmpi x x) = 0; rw [if_pos (cmpi_eq.2 rfl)]; exact cmpL_self v
/-- Sets: by how many, then by lists. -/
def cmpS (a b : List Int) : Int := if (a.length : Int) - (b.length : Int) = 0 then cmpL a b else (a.length : Int) - (b.length : Int)
theorem cmpS_lt {a b : List Int} : cmpS a b < 0 ↔ a.length < b.length ∨ a.length = b.length ∧ cmpL a b < 0 := by
  unfold cmpS
  by_cases h : (a.length : Int) - (b.length : Int) = 0
  · rw [if_pos h]; constructor
    · exact fun h2 => .inr ⟨by omega, h2⟩
    · rintro (h2 | h2)
      · omega
      · exact h2.2
  · rw [if_neg h]; omega
theorem cmpS_self (v : List Int) : ¬ cmpS v v < 0 := by
  rw [cmpS_lt, cmpL_self]; omega
end Go.Proofs.YtjbfkdaodfdpcaaDoor

/-
  All subgroups of a group, in their order. Conditions: none.
-/
set_option linter.all false
namespace Go.Proofs.YtjbfkdaodfdpcaaDoor
open Go.Pv

def wta (p : Nat → Bool) (a x : Nat) : Bool := p x || decide (x = a)
section
variable {n e : Nat} {f : Nat → Nat → Nat}

/-- With one thing more, what is made is there. -/
def Dn (n : Nat) (f : Nat → Nat → Nat) (e x a : Nat) (L : List Nat) : Prop := ∀ q : Nat → Bool, (∀ y, y < n → (q y = true ↔ Gen n f e (wta x.testBit a) y)) → bo n q ∈ L
theorem Dn.mono {x a : Nat} {L L' : List Nat} (h : Dn n f e x a L) (hs : ∀ y ∈ L, y ∈ L') : Dn n f e x a L' := fun q hq => hs _ (h q hq)

/-- All subgroups; each once. -/
structure AllI (n : Nat) (f : Nat → Nat → Nat) (e : Nat) (L : List Nat) : Prop where
  nodup : L.Nodup
  subs : ∀ x ∈ L, ∃ p, Sub n f e p ∧ x = bo n p
  one : bo n (onp e) ∈ L
theorem AllI.lt {L : List Nat} (h : AllI n f e L) : ∀ x ∈ L, x < 2 ^ n := fun x hx => by
  obtain ⟨p, _, rfl⟩ := h.subs x hx
  exact bo_lt n p
theorem AllI.len {L : List Nat} (h : AllI n f e L) : L.length ≤ 2 ^ n := nodup_lt h.nodup h.lt
theorem AllI.all {L : List Nat} (G : Grp n f e) (h : AllI n f e L) (hd : ∀ x ∈ L, ∀ a, a < n → Dn n f e x a L) : ∀ p, Sub n f e p → bo n p ∈ L := by
  intro q hq
  -- from what is there, inside q, up
  have go : ∀ c (p : Nat → Bool), Sub n f e p → bo n p ∈ L → (∀ y, y < n → p y = true → q y = true) → (mem n q).length - (mem n p).length ≤ c → bo n q ∈ L := by
    intro c
    induction c with
    | zero =>
      intro p hp hL hle hc
      have hall : ∀ y, y < n → q y = p y := by
        refine Classical.byContradiction fun hh => ?_
        have := mem_lt (p := q) (q := p) hle (fun h2 => hh fun y hy => (h2 y hy).symm)
        omega
      rw [bo_congr hall]; exact hL
    | succ c ih =>
      intro p hp hL hle hc
      by_cases hall : ∀ y, y < n → q y = p y
      · rw [bo_congr hall]; exact hL
      · have hex : ∃ a, a < n ∧ q a = true ∧ p a = false := by
          refine Classical.byContradiction fun hh => hall fun y hy => ?_
          cases hpy : p y with
          | true => exact hle y hy hpy
          | false =>
            cases hqy : q y with
            | false => rfl
            | true => exact absurd ⟨y, hy, hqy, hpy⟩ hh
        obtain ⟨a, ha, qa, pa⟩ := hex
        obtain ⟨r, hr⟩ := gen_ex n f e (wta (bo n p).testBit a)
        have hrL := hd _ hL a ha r hr
        have hin : ∀ b, b < n → wta (bo n p).testBit a b = true → q b = true := fun b hb hw => by
          unfold wta at hw
          rw [bo_bit, Bool.or_eq_true, Bool.and_eq_true, decide_eq_true_eq, decide_eq_true_eq] at hw
          rcases hw with hw | hw
          · exact hle b hb hw.2
          · rw [hw]; exact qa
        have hrq : ∀ y, y < n → r y = true → q y = true := fun y hy h1 => ((hr y hy).1 h1).sub G hq hin
        have hpr : ∀ y, y < n → p y = true → r y = true := fun y hy h1 => (hr y hy).2 (Gen.mem G hy (by unfold wta; rw [bo_bit]; simp [hy, h1]))
        have hra : r a = true := (hr a ha).2 (Gen.mem G ha (by unfold wta; simp))
        have hlt := mem_lt (p := r) (q := p) hpr (fun h2 => by have := h2 a ha; rw [pa, hra] at this; cases this)
        exact ih r (gen_sub G hr) hrL hrq (by omega)
  exact go _ (onp e) G.onp_sub h.one (fun y hy h1 => by rw [onp_iff] at h1; rw [h1]; exact hq.one) (Nat.le_refl _)

/-- .. in their order. -/
structure AllS (n : Nat) (f : Nat → Nat → Nat) (e : Nat) (L : List Nat) : Prop where
  subs : ∀ x ∈ L, ∃ p, Sub n f e p ∧ x = bo n p
  all : ∀ p, Sub n f e p → bo n p ∈ L
  rise : L.Pairwise fun x y => cmpS (stl x) (stl y) < 0
theorem AllS.nodup {L : List Nat} (h : AllS n f e L) : L.Nodup := h.rise.imp fun {x y} hxy he => by
  subst he; exact cmpS_self _ hxy
/-- Put into a list that rises. -/
def insS (x : Nat) : List Nat → List Nat
  | [] => [x]
  | y :: r => if cmpS (stl x) (stl y) < 0 then x :: y :: r else y :: insS x r
end
end Go.Proofs.YtjbfkdaodfdpcaaDoor

/-
  Sylow's subgroups, as the program has them: look, Cauchy, one. Conditions: none.
-/
set_option linter.all false
namespace Go.Proofs.YtjbfkdaodfdpcaaDoor
open Go.Pv

theorem isPrime_r (p : Nat) : FnC Tryd.prog 25 [.int .i64 p] (.bool (decide (isPr p))) := by
  refine fnc_of tab_ok Tryd.func25 rfl (by kernel_rfl) (by rw [Tryd.ntmps25]; exact Nat.le_add_left 1 _) ?_; rw [Tryd.ntmps25]
  refine qm ?_
  refine hk_region fun K hK => runs_eval tab_ok ?_
  simp only [ev0, evA, evB, evP, fl, gp, tab, simprocAttr, reduceCtorEq, reduceIte]
  refine fin_run trivial (hK _ ?_) <;> clear hK <;> clear K
  refine qa (qm (qm ?_))
  by_cases g1a : (p : Int) < 2
  · refine hk_region fun K hK => runs_eval tab_ok ?_
    simp only [ev0, evA, evB, evP, fl, gp, tab, simprocAttr, reduceCtorEq, reduceIte, decide_eq_true g1a]
    refine fin_run trivial (hK _ ?_) <;> clear hK <;> clear K
    refine qa ?_
    refine hk_cond rfl (fun hC1 => ?_) (fun hC1 => ?_)
    · refine qm ?_
      refine hk_region fun K hK => runs_eval tab_ok ?_
      simp only [ev0, evA, evB, evP, fl, gp, tab, simprocAttr, reduceCtorEq, reduceIte]
      refine fin_run trivial (hK _ ?_) <;> clear hK <;> clear K
      refine qa (qk (qb ?_))
      simp only [Tryd.results25, enA, ev0, evA, evB, evP, fl, gp, tab, simprocAttr, reduceCtorEq, reduceIte]
      all_goals (rw [eq_comm]; exact decide_eq_false fun h => by have := h.1; omega)
    · cases hC1
  · refine hk_region fun K hK => runs_eval tab_ok ?_
    simp only [ev0, evA, evB, evP, fl, gp, tab, simprocAttr, reduceCtorEq, reduceIte, decide_eq_false g1a]
    refine fin_run trivial (hK _ ?_) <;> clear hK <;> clear K
    refine qa ?_
    refine hk_cond rfl (fun hC1 => ?_) (fun hC1 => ?_)
    · (try simp only [nhs] at hC1)
      refine qm ?_
      refine hk_region fun K hK => runs_eval tab_ok ?_
      simp only [ev0, evA, evB, evP, fl, gp, tab, simprocAttr, reduceCtorEq, reduceIte]
      refine fin_run trivial (hK _ ?_) <;> clear hK <;> clear K
      refine qa (qk (qb ?_))
      simp only [Tryd.results25, enA, ev0, evA, evB, evP, fl, gp, tab, simprocAttr, reduceCtorEq, reduceIte]
      all_goals (rw [eq_comm]; exact decide_eq_false fun h => by have := h.2.1; omega)
    · (try simp only [nhs] at hC1)
      refine qh (qa (qm (qm ?_)))
      refine hk_region fun K hK => runs_eval tab_ok ?_
      simp only [ev0, evA, evB, evP, fl, gp, tab, simprocAttr, reduceCtorEq, reduceIte]
      refine fin_run trivial (hK _ ?_) <;> clear hK <;> clear K
      refine qa (ql ?_)
      refine hk_loop (ι := Nat) (fun d => ⟨19, [(0, .p (.int .i64 p)), (3, .p (.int .i64 d))], []⟩) (fun d => 2 ≤ d ∧ d ≤ p ∧ ∀ c, c < d → 2 ≤ c → ¬ p % c = 0) (fun d => p - d) 2 ⟨Nat.le_refl _, by omega, fun c hc h => by omega⟩ [] (by simp only [leq, leA, ev0, evA, evB, evP, fl, gp, tab, simprocAttr, reduceCtorEq, reduceIte] <;> trivial) fun d hd => ?_
      obtain ⟨hd1, hd2, hd3⟩ := hd
      refine qm (qm ?_)
      refine hk_region fun K hK => runs_eval tab_ok ?_
      simp only [ev0, evA, evB, evP, fl, gp, tab, simprocAttr, reduceCtorEq, reduceIte]
      refine fin_run trivial (hK _ ?_) <;> clear hK <;> clear K
      refine qa ?_
      refine hk_cond rfl (fun hC2 => ?_) (fun hC2 => ?_)
      · (try simp only [nhs] at hC2)
        refine qh (qa (qm (ql (qm ?_))))
        refine hk_region fun K hK => runs_eval tab_ok ?_
        simp only [ev0, evA, evB, evP, fl, gp, tab, simprocAttr, reduceCtorEq, reduceIte, tm_nat]
        refine fin_run ?_ (hK _ ?_) <;> clear hK <;> clear K
        · (first | exact trivial | omega | (simp only [In64] at *; omega) | (simp [In64] at *; omega) | (simp_all; done) | skip)
        refine qa ?_
        refine hk_cond rfl (fun hC3 => ?_) (fun hC3 => ?_)
        · (try simp only [nhs] at hC3)
          refine qm ?_
          refine hk_region fun K hK => runs_eval tab_ok ?_
          simp only [ev0, evA, evB, evP, fl, gp, tab, simprocAttr, reduceCtorEq, reduceIte]
          refine fin_run trivial (hK _ ?_) <;> clear hK <;> clear K
          refine qa (qk (qe (qb (qb (qe (qb ?_))))))
          simp only [Tryd.results25, enA, ev0, evA, evB, evP, fl, gp, tab, simprocAttr, reduceCtorEq, reduceIte]
          all_goals (rw [eq_comm]; exact decide_eq_false fun h => h.2.2 d (by omega) hd1 (by omega))
        · (try simp only [nhs] at hC3)
          refine qh (qd (qa ?_))
          refine hk_region fun K hK => runs_eval tab_ok ?_
          simp only [ev0, evA, evB, evP, fl, gp, tab, simprocAttr, reduceCtorEq, reduceIte]
          refine fin_run ?_ (hK _ ?_) <;> clear hK <;> clear K
          · (first | exact trivial | omega | (simp only [In64] at *; omega) | (simp [In64] at *; omega) | (simp_all; done) | skip)
          refine qa ?_
          refine ⟨d + 1, [], ⟨by omega, by omega, fun c hc h2 => ?_⟩, by omega, ?_⟩
          · by_cases hcd : c = d
            · subst hcd; omega
            · exact hd3 c (by omega) h2
          · simp only [leq, leA, ev0, evA, evB, evP, fl, gp, tab, simprocAttr, reduceCtorEq, reduceIte] <;> omega
      · (try simp only [nhs] at hC2)
        refine qj (qc (qc (qf (qa (qm ?_)))))
        refine hk_region fun K hK => runs_eval tab_ok ?_
        simp only [ev0, evA, evB, evP, fl, gp, tab, simprocAttr, reduceCtorEq, reduceIte]
        refine fin_run trivial (hK _ ?_) <;> clear hK <;> clear K
        refine qa (qk ?_)
        simp only [Tryd.results25, enA, ev0, evA, evB, evP, fl, gp, tab, simprocAttr, reduceCtorEq, reduceIte]
        all_goals (rw [eq_comm]; exact decide_eq_true ⟨by omega, by omega, fun c hc h2 => hd3 c (by omega) h2⟩)

theorem isPrime_neg (p : Int) (hp : p < 2) : FnC Tryd.prog 25 [.int .i64 p] (.bool false) := by
  refine fnc_of tab_ok Tryd.func25 rfl (by kernel_rfl) (by rw [Tryd.ntmps25]; exact Nat.le_add_left 1 _) ?_; rw [Tryd.ntmps25]
  refine qm ?_
  refine hk_region fun K hK => runs_eval tab_ok ?_
  simp only [ev0, evA, evB, evP, fl, gp, tab, simprocAttr, reduceCtorEq, reduceIte]
  refine fin_run trivial (hK _ ?_) <;> clear hK <;> clear K
  refine qa (qm (qm ?_))
  refine hk_region fun K hK => runs_eval tab_ok ?_
  simp only [ev0, evA, evB, evP, fl, gp, tab, simprocAttr, reduceCtorEq, reduceIte, decide_eq_true hp]
  refine fin_run trivial (hK _ ?_) <;> clear hK <;> clear K
  refine qa ?_
  refine hk_cond rfl (fun hC1 => ?_) (fun hC1 => ?_)
  · (try simp only [nhs] at hC1)
    refine qm ?_
    refine hk_region fun K hK => runs_eval tab_ok ?_
    simp only [ev0, evA, evB, evP, fl, gp, tab, simprocAttr, reduceCtorEq, reduceIte]
    refine fin_run trivial (hK _ ?_) <;> clear hK <;> clear K
    refine qa (qk (qb ?_))
    simp only [Tryd.results25, enA, ev0, evA, evB, evP, fl, gp, tab, simprocAttr, reduceCtorEq, reduceIte]
    all_goals ((first | exact rfl | exact ⟨rfl, rfl⟩ | exact ⟨rfl, rfl, rfl⟩ | exact ⟨trivial, rfl⟩ | exact ⟨Nat.le_refl _, rfl⟩ | trivial | (simp; done)))
  · cases hC1
theorem isPrime_i (p : Int) : FnC Tryd.prog 25 [.int .i64 p] (.bool (decide (isPr p.toNat))) := by
  by_cases hp : 0 ≤ p
  · obtain ⟨k, rfl⟩ := Int.eq_ofNat_of_zero_le hp
    exact isPrime_r k
  · have e : decide (isPr p.toNat) = false := decide_eq_false fun h => by have := h.1; omega
    rw [e]
    exact isPrime_neg p (by omega)

/-- The fault of a group and a prime. -/
def syf (N : Int) (m : List Int) (p : Int) : Int × Int := bif decide ((gf N m).1 = 0) then (bif decide (isPr p.toNat) then (0, 0) else (3, 1)) else gf N m
def orp (n : Nat) (f : Nat → Nat → Nat) (e P a : Nat) : Bool := decide (ord n f e a = P)
section
variable {n e P : Nat} {m : List Int}
end
end Go.Proofs.YtjbfkdaodfdpcaaDoor

/-
  Walks: the law SeriesSolvable. Conditions: none.
-/
set_option linter.all false
namespace Go.Proofs.YtjbfkdaodfdpcaaDoor
open Go.Pv

section
variable {n e : Nat} {m : List Int}
theorem cps_chn (G : Grp n (op m n) e) {T : Nat → Nat → Bool} {Z : Nat} (hC : Cps n (op m n) e T Z) : Chn n (op m n) e (fun _ => true) (tlc T 0 Z) := by
  have hlast : ∀ x, x < n → T (0 + Z) x = true → x = e := fun x hx hh => by
    rw [Nat.zero_add] at hh
    refine one_mem G.el (hC.sub Z (Nat.le_refl _)).one ?_ hx hh
    have e1 : (thl n (T Z)).length = (mem n (T Z)).length := thl_len _ _
    rw [← e1]; exact hC.last
  have := tlc_chn (n := n) (f := op m n) (e := e) (T := T) Z 0 (fun j _ h2 => hC.mxn j (by omega)) hlast
  rwa [hC.all] at this
/-- What the laws need of a group: its composition series, whether it is solvable. -/
theorem slv_pack (h : GT n m n e) : ∃ (b : Bool) (T : Nat → Nat → Bool) (Z : Nat), Cps n (op m n) e T Z ∧ FnC Tryd.prog 21 [gp n m] (.tup [.list (ll (cht n T Z)), fl (0, 0)]) ∧ FnC Tryd.prog 23 [gp n m] (.tup [.bool b, fl (0, 0)]) ∧ ∀ l, Chn n (op m n) e (fun _ => true) l → (b = true ↔ AbC n (op m n) e (fun _ => true) l) := by
  have G := h.2.2
  obtain ⟨T, Z, hC, hcomp⟩ := composition_ok h
  obtain ⟨nx, hnx⟩ := nx_ex n (op m n) e (fun p => dnp n (op m n) e p p)
  obtain ⟨K, hK, hS⟩ := G.fall_stop hnx G.dd_nml G.dd_le
  refine ⟨_, T, Z, hC, hcomp, solvable_ok h nx hnx K hK hS, fun l hl => ?_⟩
  rw [slv_iff G hnx hl hS, decide_eq_true_eq]
  have hsub := (G.fall hnx G.dd_nml K).1
  have e1 : (thl n (itr nx (fun _ => true) K)).length = (mem n (itr nx (fun _ => true) K)).length := thl_len _ _
  constructor
  · intro h1 a ha hh
    exact one_mem G.el hsub.one (by omega) ha hh
  · intro h1
    have := mem_one G.el fun a ha => ⟨h1 a ha, fun hh => by rw [hh]; exact hsub.one⟩
    omega
theorem abc_prime (G : Grp n (op m n) e) (hb : n ≤ 60) : ∀ {l : List (Nat → Bool)} {p : Nat → Bool}, Sub n (op m n) e p → Chn n (op m n) e p l → (AbC n (op m n) e p l ↔ ∀ k ∈ idx n p l, isPr k)
  | [], p, _, _ => ⟨fun _ k hk => by simp [idx] at hk, fun _ => trivial⟩
  | q :: l, p, hp, h => by
    show Abl n (op m n) e p q ∧ AbC n (op m n) e q l ↔ ∀ k ∈ (_ :: idx n q l), isPr k
    rw [h.1.prime G hb hp, abc_prime G hb h.1.sub h.2, List.forall_mem_cons]
/-- Of a normal subgroup and the quotient by it. -/
theorem slv_both (h : GT n m n e) {p : Nat → Bool} (hp : Sub n (op m n) e p) (hN : Nml n (op m n) e p) {lx ly lm : List (Nat → Bool)}
    (hx : Chn (thl n p).length (op (ptb n (op m n) p) (thl n p).length) (pix p e) (fun _ => true) lx)
    (hQ : GT (cst n (dco n (op m n) p (onp e))).length (qtb n (op m n) (dco n (op m n) p (onp e))) (cst n (dco n (op m n) p (onp e))).length (clq n (dco n (op m n) p (onp e)) e))
    (hy : Chn (cst n (dco n (op m n) p (onp e))).length (op (qtb n (op m n) (dco n (op m n) p (onp e))) (cst n (dco n (op m n) p (onp e))).length) (clq n (dco n (op m n) p (onp e)) e) (fun _ => true) ly)
    (hm : Chn n (op m n) e (fun _ => true) lm) : lm.length = ly.length + lx.length ∧ ∃ l, Chn n (op m n) e (fun _ => true) l ∧ (AbC n (op m n) e (fun _ => true) l ↔ AbC (thl n p).length (op (ptb n (op m n) p) (thl n p).length) (pix p e) (fun _ => true) lx ∧ AbC (cst n (dco n (op m n) p (onp e))).length (op (qtb n (op m n) (dco n (op m n) p (onp e))) (cst n (dco n (op m n) p (onp e))).length) (clq n (dco n (op m n) p (onp e)) e) (fun _ => true) ly) := by
  have G := h.2.2
  have H1 := part_hm2 h hp
  have H2 := (quot_hm G hp hN).cong_op (fun a b ha hb => qtb_op ha hb) hQ.2.2
  have t1 : ∀ x, x < n → pre p (pix p) (fun _ => true) x = p x := fun x _ => by show (p x && true) = p x; rw [Bool.and_true]
  have t2 : ∀ x, x < n → pre (fun _ => true) (clq n (dco n (op m n) p (onp e))) (onp (clq n (dco n (op m n) p (onp e)) e)) x = p x := fun x hx => by
    show (true && _) = p x
    rw [Bool.true_and, Bool.eq_iff_iff, onp_iff]
    exact quot_ker G hp hx
  have t3 : ∀ x, x < n → pre (fun _ => true) (clq n (dco n (op m n) p (onp e))) (fun _ => true) x = true := fun x _ => rfl
  have hk : Chn n (op m n) e (pre p (pix p) (onp (pix p e))) [] := fun x hx hh => by
    obtain ⟨px, h1⟩ := pre_iff.1 hh
    have h2 := onp_iff.1 h1
    have h3 := (pix_at hx px).2
    have h4 := (pix_at G.el hp.one).2
    rw [h2, h4] at h3
    omega
  have c1 := H1.pre_chn G hk H1.grp.all_sub hx
  obtain ⟨c2, _⟩ := Chn.congr (p' := pre (fun _ => true) (clq n (dco n (op m n) p (onp e))) (onp (clq n (dco n (op m n) p (onp e)) e))) (fun x hx => (t2 x hx).trans (t1 x hx).symm) c1
  have c3 := H2.pre_chn G c2 H2.grp.all_sub hy
  obtain ⟨c4, _⟩ := Chn.congr (p' := fun _ => true) (fun x hx => (t3 x hx).symm) c3
  have e1 : ∀ (p : Nat → Bool) (l : List (Nat → Bool)), (idx n p l).length = l.length := by
    intro p l
    induction l generalizing p with
    | nil => rfl
    | cons q l ih => show (idx n q l).length + 1 = _; rw [ih]; rfl
  have hl := (jordan G _ _ _ _ G.all_sub (Nat.le_refl _) hm c4).length_eq
  rw [e1, e1] at hl
  simp only [List.length_append, List.length_map, List.length_nil, Nat.add_zero] at hl
  refine ⟨hl, _, c4, ?_⟩
  have a1 := H1.pre_abc G (lk := []) H1.grp.all_sub hx
  have a2 := H2.pre_abc G (lk := lx.map (pre p (pix p)) ++ []) H2.grp.all_sub hy
  constructor
  · intro hA
    have := a2.1 (AbC.congr (fun x hx => t3 x hx) hA)
    exact ⟨(a1.1 (AbC.congr (fun x hx => (t1 x hx).trans (t2 x hx).symm) this.2)).1, this.1⟩
  · rintro ⟨hA, hB⟩
    refine AbC.congr (fun x hx => (t3 x hx).symm) (a2.2 ⟨hB, AbC.congr (fun x hx => (t2 x hx).trans (t1 x hx).symm) (a1.2 ⟨hA, trivial⟩)⟩)
def apr (r : List Int) (i : Nat) : Bool := decide (∀ j, j < i → isPr (r.getD j 0).toNat)
theorem apr_succ (r : List Int) (i : Nat) : apr r (i + 1) = (apr r i && decide (isPr (r.getD i 0).toNat)) := by
  unfold apr
  rw [← Bool.decide_and]
  refine decide_eq_decide.2 ⟨fun h => ⟨fun j hj => h j (by omega), h i (by omega)⟩, fun h j hj => ?_⟩
  by_cases hji : j = i
  · rw [hji]; exact h.2
  · exact h.1 j (by omega)
theorem apr_all (r : List Int) : apr r r.length = true ↔ ∀ x ∈ r, isPr x.toNat := by
  unfold apr
  rw [decide_eq_true_eq]
  constructor
  · intro h x hx
    obtain ⟨j, hj, rfl⟩ := List.getElem_of_mem hx
    have := h j hj
    simpa [List.getD, List.getElem?_eq_getElem hj] using this
  · intro h j hj
    refine h _ ?_
    simp [List.getD, List.getElem?_eq_getElem hj]
theorem lawSlv_no (N : Int) (m l : List Int) (hm : m.length ≤ 1000000000000000) (hf : ¬ (gf N m).1 = 0) : FnC Tryd.prog 5 [gp N m, .list (il l)] (.bool true) := by
  refine fnc_of tab_ok Tryd.func5 rfl (by kernel_rfl) (by rw [Tryd.ntmps5]; exact Nat.le_add_left 2 _) ?_; rw [Tryd.ntmps5]
  refine qm ?_
  refine hk_region fun K hK => runs_eval tab_ok ?_
  simp only [ev0, evA, evB, evP, fl, gp, tab, simprocAttr, reduceCtorEq, reduceIte]
  refine fin_run ?_ (hK _ ?_) <;> clear hK <;> clear K
  · (first | exact trivial | omega | (simp only [In64] at *; omega) | (simp [In64] at *; omega) | (simp_all; done) | skip)
  refine qa (qm (qm ?_))
  refine hk_region fun K hK => runs_eval tab_ok ?_
  simp only [ev0, evA, evB, evP, fl, gp, tab, simprocAttr, reduceCtorEq, reduceIte]
  refine fin_stop trivial (runs_call (seriesBegun_c) rfl rfl rfl (by simp only [dstOk, Nat.reduceLT]) (by repeat (first | exact trivial | constructor)) (runs_eval tab_ok ?_))
  simp only [ev0, evA, evB, evP, fl, gp, tab, simprocAttr, reduceCtorEq, reduceIte]
  refine fin_run trivial (hK _ ?_) <;> clear hK <;> clear K
  refine qa ?_
  refine hk_cond rfl (fun hC1 => ?_) (fun hC1 => ?_)
  · cases hC1
  · (try simp only [nhs] at hC1)
    refine qh (qa (qm ?_))
    refine hk_region fun K hK => runs_eval tab_ok ?_
    simp only [ev0, evA, evB, evP, fl, gp, tab, simprocAttr, reduceCtorEq, reduceIte]
    refine fin_stop trivial (runs_call (solvable_no N m hm hf) rfl rfl rfl (by simp only [dstOk, Nat.reduceLT]) (by repeat (first | exact trivial | constructor)) (runs_eval tab_ok ?_))
    simp only [ev0, evA, evB, evP, fl, gp, tab, simprocAttr, reduceCtorEq, reduceIte]
    refine fin_run ?_ (hK _ ?_) <;> clear hK <;> clear K
    · (first | exact trivial | omega | (simp only [In64] at *; omega) | (simp [In64] at *; omega) | (simp_all; done) | skip)
    refine qa (qm ?_)
    refine hk_region fun K hK => runs_eval tab_ok ?_
    simp only [ev0, evA, evB, evP, fl, gp, tab, simprocAttr, reduceCtorEq, reduceIte]
    refine fin_stop trivial (runs_call (composition_no N m hm hf) rfl rfl rfl (by simp only [dstOk, Nat.reduceLT]) (by repeat (first | exact trivial | constructor)) (runs_eval tab_ok ?_))
    simp only [ev0, evA, evB, evP, fl, gp, tab, simprocAttr, reduceCtorEq, reduceIte]
    refine fin_run ?_ (hK _ ?_) <;> clear hK <;> clear K
    · (first | exact trivial | omega | (simp only [In64] at *; omega) | (simp [In64] at *; omega) | (simp_all; done) | skip)
    refine qa (qm (qm ?_))
    refine hk_region fun K hK => runs_eval tab_ok ?_
    simp only [ev0, evA, evB, evP, fl, gp, tab, simprocAttr, reduceCtorEq, reduceIte, decide_eq_false hf]
    refine fin_run ?_ (hK _ ?_) <;> clear hK <;> clear K
    · (first | exact trivial | omega | (simp only [In64] at *; omega) | (simp [In64] at *; omega) | (simp_all; done) | skip)
    refine qa ?_
    refine hk_cond rfl (fun hC2 => ?_) (fun hC2 => ?_)
    · refine qm ?_
      refine hk_region fun K hK => runs_eval tab_ok ?_
      simp only [ev0, evA, evB, evP, fl, gp, tab, simprocAttr, reduceCtorEq, reduceIte]
      refine fin_stop trivial (runs_call (gf_c N m hm) rfl rfl rfl (by simp only [dstOk, Nat.reduceLT]) (by repeat (first | exact trivial | constructor)) (runs_eval tab_ok ?_))
      simp only [ev0, evA, evB, evP, fl, gp, tab, simprocAttr, reduceCtorEq, reduceIte]
      refine fin_run ?_ (hK _ ?_) <;> clear hK <;> clear K
      · (first | exact trivial | omega | (simp only [In64] at *; omega) | (simp [In64] at *; omega) | (simp_all; done) | skip)
      refine qa (qk (qb ?_))
      simp only [Tryd.results5, enA, ev0, evA, evB, evP, fl, gp, tab, simprocAttr, reduceCtorEq, reduceIte]
      all_goals (simp [hf])
    · cases hC2
set_option maxHeartbeats 4000000 in
set_option maxRecDepth 20000 in
theorem lawSlv_ok (h : GT n m n e) (l : List Int) (hl : l.length ≤ 17592186043904) : FnC Tryd.prog 5 [gp n m, .list (il l)] (.bool true) := by
  have G := h.2.2
  have hb := h.2.1.big
  have hml := h.2.1.len
  have hsq := sq_le hb
  obtain ⟨b, T, Z, hC, hcomp, hslv, hsl⟩ := slv_pack h
  have hZ := hC.short
  have hlen := cht_len n T Z
  have hg := cps_fsp G hC
  obtain ⟨ho, hm⟩ := fsp_good hg
  have hF := factors_ok h (cht n T Z) ho.toFw fun w hw => Nat.le_trans (cht_rows T Z w hw) (by omega)
  have e1 : (fsp n (op m n) e (cht n T Z)).2 = (0, 0) := by rw [fsp_ok ho hm]
  obtain ⟨c1, c2⟩ := fsp_chn G hg
  have hbp : b = apr (fsp n (op m n) e (cht n T Z)).1 (fsp n (op m n) e (cht n T Z)).1.length := by
    rw [Bool.eq_iff_iff, hsl _ c1, abc_prime G hb G.all_sub c1, apr_all, c2]
    constructor
    · intro hh x hx
      obtain ⟨k, hk, rfl⟩ := List.mem_map.1 ((srt_perm _).mem_iff.1 hx)
      rw [Int.toNat_natCast]; exact hh k hk
    · intro hh k hk
      have := hh (k : Int) ((srt_perm _).mem_iff.2 (List.mem_map.2 ⟨k, hk, rfl⟩))
      rwa [Int.toNat_natCast] at this
  have hrl : (fsp n (op m n) e (cht n T Z)).1.length ≤ 100 := by
    rw [fsp_ok ho hm]
    show (srt _).length ≤ _
    rw [srt_len, facL_len]; omega
  have hchn := cps_chn G hC
  rw [e1] at hF
  generalize (fsp n (op m n) e (cht n T Z)).1 = r at *
  have hcl : (¬ (sf n m l).1 = 0) ∨ ∃ q, Sub n (op m n) e q ∧ Nml n (op m n) e q ∧ FnC Tryd.prog 26 [gp n m, .list (il l)] (.tup [.list (il (thl n q)), fl (0, 0)]) := by
    have one : ∀ e', Grp n (op m n) e' → e' = e := fun e' G' => by
      have h1 := G'.one_l e G.el
      rw [G.one_r e' G'.el] at h1
      exact h1
    have two : ∀ p, ∃ q, Sub n (op m n) e q ∧ Nml n (op m n) e q ∧ FnC Tryd.prog 26 [gp n m, .list (il (thl n p))] (.tup [.list (il (thl n q)), fl (0, 0)]) := fun p => by
      obtain ⟨q, hq⟩ := gen_ex n (op m n) e (cup n (op m n) e p)
      exact ⟨q, gen_sub G hq, G.gen_nml (G.cup_nml p) hq, closure_ok h p q hq⟩
    rcases sub3 n m l with ⟨n', e', p, h', hn, rfl, hs⟩ | ⟨n', e', p, h', hn, rfl, hs⟩ | hf
    · have : n' = n := by omega
      subst this
      exact .inr (two p)
    · have : n' = n := by omega
      subst this
      exact .inr (two p)
    · exact .inl hf
  refine fnc_of tab_ok Tryd.func5 rfl (by kernel_rfl) (by rw [Tryd.ntmps5]; exact Nat.le_add_left 2 _) ?_; rw [Tryd.ntmps5]
  refine qm ?_
  refine hk_region fun K hK => runs_eval tab_ok ?_
  simp only [ev0, evA, evB, evP, fl, gp, tab, simprocAttr, reduceCtorEq, reduceIte]
  refine fin_run ?_ (hK _ ?_) <;> clear hK <;> clear K
  · (first | exact trivial | omega | (simp only [In64] at *; omega) | (simp [In64] at *; omega) | (simp_all; done) | skip)
  refine qa (qm (qm ?_))
  refine hk_region fun K hK => runs_eval tab_ok ?_
  simp only [ev0, evA, evB, evP, fl, gp, tab, simprocAttr, reduceCtorEq, reduceIte]
  refine fin_stop trivial (runs_call (seriesBegun_c) rfl rfl rfl (by simp only [dstOk, Nat.reduceLT]) (by repeat (first | exact trivial | constructor)) (runs_eval tab_ok ?_))
  simp only [ev0, evA, evB, evP, fl, gp, tab, simprocAttr, reduceCtorEq, reduceIte]
  refine fin_run trivial (hK _ ?_) <;> clear hK <;> clear K
  refine qa ?_
  refine hk_cond rfl (fun hC1 => ?_) (fun hC1 => ?_)
  · cases hC1
  · (try simp only [nhs] at hC1)
    refine qh (qa (qm ?_))
    refine hk_region fun K hK => runs_eval tab_ok ?_
    simp only [ev0, evA, evB, evP, fl, gp, tab, simprocAttr, reduceCtorEq, reduceIte]
    refine fin_stop trivial (runs_call (hslv) rfl rfl rfl (by simp only [dstOk, Nat.reduceLT]) (by repeat (first | exact trivial | constructor)) (runs_eval tab_ok ?_))
    simp only [ev0, evA, evB, evP, fl, gp, tab, simprocAttr, reduceCtorEq, reduceIte]
    refine fin_run ?_ (hK _ ?_) <;> clear hK <;> clear K
    · (first | exact trivial | omega | (simp only [In64] at *; omega) | (simp [In64] at *; omega) | (simp_all; done) | skip)
    refine qa (qm ?_)
    refine hk_region fun K hK => runs_eval tab_ok ?_
    simp only [ev0, evA, evB, evP, fl, gp, tab, simprocAttr, reduceCtorEq, reduceIte]
    refine fin_stop trivial (runs_call (hcomp) rfl rfl rfl (by simp only [dstOk, Nat.reduceLT]) (by repeat (first | exact trivial | constructor)) (runs_eval tab_ok ?_))
    simp only [ev0, evA, evB, evP, fl, gp, tab, simprocAttr, reduceCtorEq, reduceIte]
    refine fin_run ?_ (hK _ ?_) <;> clear hK <;> clear K
    · (first | exact trivial | omega | (simp only [In64] at *; omega) | (simp [In64] at *; omega) | (simp_all; done) | skip)
    refine qa (qm (qm ?_))
    refine hk_region fun K hK => runs_eval tab_ok ?_
    simp only [ev0, evA, evB, evP, fl, gp, tab, simprocAttr, reduceCtorEq, reduceIte]
    refine fin_run ?_ (hK _ ?_) <;> clear hK <;> clear K
    · (first | exact trivial | omega | (simp only [In64] at *; omega) | (simp [In64] at *; omega) | (simp_all; done) | skip)
    refine qa ?_
    refine hk_cond rfl (fun hC2 => ?_) (fun hC2 => ?_)
    · cases hC2
    · (try simp only [nhs] at hC2)
      refine qh (qa (qm ?_))
      refine hk_region fun K hK => runs_eval tab_ok ?_
      simp only [ev0, evA, evB, evP, fl, gp, tab, simprocAttr, reduceCtorEq, reduceIte]
      refine fin_stop trivial (runs_call (hF) rfl rfl rfl (by simp only [dstOk, Nat.reduceLT]) (by repeat (first | exact trivial | constructor)) (runs_eval tab_ok ?_))
      simp only [ev0, evA, evB, evP, fl, gp, tab, simprocAttr, reduceCtorEq, reduceIte]
      refine fin_run ?_ (hK _ ?_) <;> clear hK <;> clear K
      · (first | exact trivial | omega | (simp only [In64] at *; omega) | (simp [In64] at *; omega) | (simp_all; done) | skip)
      refine qa (qm (qm ?_))
      refine hk_region fun K hK => runs_eval tab_ok ?_
      simp only [ev0, evA, evB, evP, fl, gp, tab, simprocAttr, reduceCtorEq, reduceIte]
      refine fin_run ?_ (hK _ ?_) <;> clear hK <;> clear K
      · (first | exact trivial | omega | (simp only [In64] at *; omega) | (simp [In64] at *; omega) | (simp_all; done) | skip)
      refine qa ?_
      refine hk_cond rfl (fun hC3 => ?_) (fun hC3 => ?_)
      · cases hC3
      · (try simp only [nhs] at hC3)
        refine qh (qa (qm ?_))
        refine hk_region fun K hK => runs_eval tab_ok ?_
        simp only [ev0, evA, evB, evP, fl, gp, tab, simprocAttr, reduceCtorEq, reduceIte]
        refine fin_run trivial (hK _ ?_) <;> clear hK <;> clear K
        refine qa (qm (qm ?_))
        refine hk_region fun K hK => runs_eval tab_ok ?_
        simp only [ev0, evA, evB, evP, fl, gp, tab, simprocAttr, reduceCtorEq, reduceIte]
        refine fin_run trivial (hK _ ?_) <;> clear hK <;> clear K
        refine qa (ql ?_)
        refine hk_loop (ι := Nat) (fun i => ⟨160, [(1, .p (.list (il l))), (2, .ptr 0 0), (5, .p (.bool b)), (6, .ptr 1 0), (7, .p (.list (ll (cht n T Z)))), (8, .ptr 2 0), (9, .p (.list (il r))), (10, .ptr 3 0), (11, .p (.bool (apr r i))), (12, .p (.int .i64 i))], [.own [.p (.int .i64 n), .p (.list (il m))], .own [.p (.int .i64 0), .p (.int .i64 0)], .own [.p (.int .i64 0), .p (.int .i64 0)], .own [.p (.int .i64 0), .p (.int .i64 0)]]⟩) (fun i => i ≤ r.length) (fun i => r.length - i) 0 (Nat.zero_le _) [0, 1, 2, 3] (by simp only [leq, leA, ev0, evA, evB, evP, fl, gp, tab, simprocAttr, reduceCtorEq, reduceIte] <;> first | trivial | (simp [apr]; done)) fun i hi => ?_
        refine qm (qm ?_)
        refine hk_region fun K hK => runs_eval tab_ok ?_
        simp only [ev0, evA, evB, evP, fl, gp, tab, simprocAttr, reduceCtorEq, reduceIte, il_length]
        refine fin_run trivial (hK _ ?_) <;> clear hK <;> clear K
        refine qa ?_
        refine hk_cond rfl (fun hC4 => ?_) (fun hC4 => ?_)
        · (try simp only [nhs] at hC4)
          have hlt : i < r.length := by omega
          have hap := apr_succ r i
          refine qh (qa (qm (ql ?_)))
          rcases Bool.eq_false_or_eq_true (apr r i) with ha | ha
          · refine hk_region fun K hK => runs_eval tab_ok ?_
            simp only [ev0, evA, evB, evP, fl, gp, tab, simprocAttr, reduceCtorEq, reduceIte, ha, il_get hlt, il_length]
            refine fin_stop ?_ (runs_call (isPrime_i (r.getD i 0)) rfl rfl rfl (by simp only [dstOk, Nat.reduceLT]) (by repeat (first | exact trivial | constructor)) (runs_eval tab_ok ?_))
            · (first | exact trivial | omega | (simp only [In64] at *; omega) | (simp [In64] at *; omega) | (simp_all; done) | skip)
            simp only [ev0, evA, evB, evP, fl, gp, tab, simprocAttr, reduceCtorEq, reduceIte, ha, il_get hlt, il_length]
            refine fin_run ?_ (hK _ ?_) <;> clear hK <;> clear K
            · (first | exact trivial | omega | (simp only [In64] at *; omega) | (simp [In64] at *; omega) | (simp_all; done) | skip)
            refine qd (qa ?_)
            refine hk_region fun K hK => runs_eval tab_ok ?_
            simp only [ev0, evA, evB, evP, fl, gp, tab, simprocAttr, reduceCtorEq, reduceIte]
            refine fin_run ?_ (hK _ ?_) <;> clear hK <;> clear K
            · (first | exact trivial | omega | (simp only [In64] at *; omega) | (simp [In64] at *; omega) | (simp_all; done) | skip)
            refine qa ?_
            refine ⟨i + 1, [0, 1, 2, 3], by omega, by omega, ?_⟩
            rw [hap, ha]
            simp only [leq, leA, ev0, evA, evB, evP, fl, gp, tab, simprocAttr, reduceCtorEq, reduceIte] <;> first | trivial | omega
          · refine hk_region fun K hK => runs_eval tab_ok ?_
            simp only [ev0, evA, evB, evP, fl, gp, tab, simprocAttr, reduceCtorEq, reduceIte, ha]
            refine fin_run trivial (hK _ ?_) <;> clear hK <;> clear K
            refine qd (qa ?_)
            refine hk_region fun K hK => runs_eval tab_ok ?_
            simp only [ev0, evA, evB, evP, fl, gp, tab, simprocAttr, reduceCtorEq, reduceIte]
            refine fin_run ?_ (hK _ ?_) <;> clear hK <;> clear K
            · (first | exact trivial | omega | (simp only [In64] at *; omega) | (simp [In64] at *; omega) | (simp_all; done) | skip)
            refine qa ?_
            refine ⟨i + 1, [0, 1, 2, 3], by omega, by omega, ?_⟩
            rw [hap, ha]
            simp only [leq, leA, ev0, evA, evB, evP, fl, gp, tab, simprocAttr, reduceCtorEq, reduceIte] <;> first | trivial | omega
        · (try simp only [nhs] at hC4)
          have hin : i = r.length := by omega
          rw [hin, ← hbp]
          refine qj (qc (qc (qf (qa (qm (qm ?_))))))
          refine hk_region fun K hK => runs_eval tab_ok ?_
          simp only [ev0, evA, evB, evP, fl, gp, tab, simprocAttr, reduceCtorEq, reduceIte]
          refine fin_run trivial (hK _ ?_) <;> clear hK <;> clear K
          refine qa ?_
          refine hk_cond rfl (fun hC5 => ?_) (fun hC5 => ?_)
          · (try simp only [nhs] at hC5)
            simp at hC5
          · (try simp only [nhs] at hC5)
            refine qh (qa (qm ?_))
            rcases hcl with hcf | ⟨q, hq, hN, hclo⟩
            · refine hk_region fun K hK => runs_eval tab_ok ?_
              simp only [ev0, evA, evB, evP, fl, gp, tab, simprocAttr, reduceCtorEq, reduceIte]
              refine fin_stop trivial (runs_call (closure_no n m l (by omega) (by omega) hcf) rfl rfl rfl (by simp only [dstOk, Nat.reduceLT]) (by repeat (first | exact trivial | constructor)) (runs_eval tab_ok ?_))
              simp only [ev0, evA, evB, evP, fl, gp, tab, simprocAttr, reduceCtorEq, reduceIte]
              refine fin_run ?_ (hK _ ?_) <;> clear hK <;> clear K
              · (first | exact trivial | omega | (simp only [In64] at *; omega) | (simp [In64] at *; omega) | (simp_all; done) | skip)
              refine qa (qm (qm ?_))
              refine hk_region fun K hK => runs_eval tab_ok ?_
              simp only [ev0, evA, evB, evP, fl, gp, tab, simprocAttr, reduceCtorEq, reduceIte]
              refine fin_run ?_ (hK _ ?_) <;> clear hK <;> clear K
              · (first | exact trivial | omega | (simp only [In64] at *; omega) | (simp [In64] at *; omega) | (simp_all; done) | skip)
              refine qa ?_
              refine hk_cond rfl (fun hC6 => ?_) (fun hC6 => ?_)
              · (try simp only [nhs] at hC6)
                refine qm ?_
                refine hk_region fun K hK => runs_eval tab_ok ?_
                simp only [ev0, evA, evB, evP, fl, gp, tab, simprocAttr, reduceCtorEq, reduceIte]
                refine fin_run trivial (hK _ ?_) <;> clear hK <;> clear K
                refine qa (qk (qb ?_))
                simp only [Tryd.results5, enA, ev0, evA, evB, evP, fl, gp, tab, simprocAttr, reduceCtorEq, reduceIte]
                all_goals (first | rfl | exact decide_eq_true (by omega) | trivial)
              · (try simp only [nhs] at hC6)
                exact absurd hC6 hcf
            · have hP := ptb_GT h hq
              have hQ := qtb_GT h hq hN
              obtain ⟨bx, Tx, Zx, hCx, hcx, hsx, hlx⟩ := slv_pack hP
              obtain ⟨bq, Tq, Zq, hCq, hcq, hsq', hlq⟩ := slv_pack hQ
              have hchx := cps_chn hP.2.2 hCx
              have hchq := cps_chn hQ.2.2 hCq
              obtain ⟨hlens, lc, hlc, hAB⟩ := slv_both h hq hN hchx hQ hchq hchn
              rw [tlc_len, tlc_len, tlc_len] at hlens
              have hbb : b = (bx && bq) := by
                rw [Bool.eq_iff_iff, Bool.and_eq_true, hsl _ hlc, hAB, hlx _ hchx, hlq _ hchq]
              have hZx := hCx.short
              have hZq := hCq.short
              have hlenx := cht_len (thl n q).length Tx Zx
              have hlenq := cht_len (cst n (dco n (op m n) q (onp e))).length Tq Zq
              refine hk_region fun K hK => runs_eval tab_ok ?_
              simp only [ev0, evA, evB, evP, fl, gp, tab, simprocAttr, reduceCtorEq, reduceIte]
              refine fin_stop trivial (runs_call (hclo) rfl rfl rfl (by simp only [dstOk, Nat.reduceLT]) (by repeat (first | exact trivial | constructor)) (runs_eval tab_ok ?_))
              simp only [ev0, evA, evB, evP, fl, gp, tab, simprocAttr, reduceCtorEq, reduceIte]
              refine fin_run ?_ (hK _ ?_) <;> clear hK <;> clear K
              · (first | exact trivial | omega | (simp only [In64] at *; omega) | (simp [In64] at *; omega) | (simp_all; done) | skip)
              refine qa (qm (qm ?_))
              refine hk_region fun K hK => runs_eval tab_ok ?_
              simp only [ev0, evA, evB, evP, fl, gp, tab, simprocAttr, reduceCtorEq, reduceIte]
              refine fin_run ?_ (hK _ ?_) <;> clear hK <;> clear K
              · (first | exact trivial | omega | (simp only [In64] at *; omega) | (simp [In64] at *; omega) | (simp_all; done) | skip)
              refine qa ?_
              refine hk_cond rfl (fun hC6 => ?_) (fun hC6 => ?_)
              · cases hC6
              · (try simp only [nhs] at hC6)
                refine qh (qa (qm ?_))
                refine hk_region fun K hK => runs_eval tab_ok ?_
                simp only [ev0, evA, evB, evP, fl, gp, tab, simprocAttr, reduceCtorEq, reduceIte]
                refine fin_stop trivial (runs_call (part_ok h q hq) rfl rfl rfl (by simp only [dstOk, Nat.reduceLT]) (by repeat (first | exact trivial | constructor)) (runs_eval tab_ok ?_))
                simp only [ev0, evA, evB, evP, fl, gp, tab, simprocAttr, reduceCtorEq, reduceIte]
                refine fin_run ?_ (hK _ ?_) <;> clear hK <;> clear K
                · (first | exact trivial | omega | (simp only [In64] at *; omega) | (simp [In64] at *; omega) | (simp_all; done) | skip)
                refine qa (qm ?_)
                refine hk_region fun K hK => runs_eval tab_ok ?_
                simp only [ev0, evA, evB, evP, fl, gp, tab, simprocAttr, reduceCtorEq, reduceIte]
                refine fin_stop trivial (runs_call (quotient_ok h q hq hN) rfl rfl rfl (by simp only [dstOk, Nat.reduceLT]) (by repeat (first | exact trivial | constructor)) (runs_eval tab_ok ?_))
                simp only [ev0, evA, evB, evP, fl, gp, tab, simprocAttr, reduceCtorEq, reduceIte]
                refine fin_run ?_ (hK _ ?_) <;> clear hK <;> clear K
                · (first | exact trivial | omega | (simp only [In64] at *; omega) | (simp [In64] at *; omega) | (simp_all; done) | skip)
                refine qa (qm (qm ?_))
                refine hk_region fun K hK => runs_eval tab_ok ?_
                simp only [ev0, evA, evB, evP, fl, gp, tab, simprocAttr, reduceCtorEq, reduceIte]
                refine fin_run ?_ (hK _ ?_) <;> clear hK <;> clear K
                · (first | exact trivial | omega | (simp only [In64] at *; omega) | (simp [In64] at *; omega) | (simp_all; done) | skip)
                refine qa ?_
                refine hk_cond rfl (fun hC7 => ?_) (fun hC7 => ?_)
                · cases hC7
                · (try simp only [nhs] at hC7)
                  refine qh (qa (qm ?_))
                  refine hk_region fun K hK => runs_eval tab_ok ?_
                  simp only [ev0, evA, evB, evP, fl, gp, tab, simprocAttr, reduceCtorEq, reduceIte]
                  refine fin_stop trivial (runs_call (hsx) rfl rfl rfl (by simp only [dstOk, Nat.reduceLT]) (by repeat (first | exact trivial | constructor)) (runs_eval tab_ok ?_))
                  simp only [ev0, evA, evB, evP, fl, gp, tab, simprocAttr, reduceCtorEq, reduceIte]
                  refine fin_run ?_ (hK _ ?_) <;> clear hK <;> clear K
                  · (first | exact trivial | omega | (simp only [In64] at *; omega) | (simp [In64] at *; omega) | (simp_all; done) | skip)
                  refine qa (qm ?_)
                  refine hk_region fun K hK => runs_eval tab_ok ?_
                  simp only [ev0, evA, evB, evP, fl, gp, tab, simprocAttr, reduceCtorEq, reduceIte]
                  refine fin_stop trivial (runs_call (hsq') rfl rfl rfl (by simp only [dstOk, Nat.reduceLT]) (by repeat (first | exact trivial | constructor)) (runs_eval tab_ok ?_))
                  simp only [ev0, evA, evB, evP, fl, gp, tab, simprocAttr, reduceCtorEq, reduceIte]
                  refine fin_run ?_ (hK _ ?_) <;> clear hK <;> clear K
                  · (first | exact trivial | omega | (simp only [In64] at *; omega) | (simp [In64] at *; omega) | (simp_all; done) | skip)
                  refine qa (qm ?_)
                  refine hk_region fun K hK => runs_eval tab_ok ?_
                  simp only [ev0, evA, evB, evP, fl, gp, tab, simprocAttr, reduceCtorEq, reduceIte]
                  refine fin_stop trivial (runs_call (hcx) rfl rfl rfl (by simp only [dstOk, Nat.reduceLT]) (by repeat (first | exact trivial | constructor)) (runs_eval tab_ok ?_))
                  simp only [ev0, evA, evB, evP, fl, gp, tab, simprocAttr, reduceCtorEq, reduceIte]
                  refine fin_run ?_ (hK _ ?_) <;> clear hK <;> clear K
                  · (first | exact trivial | omega | (simp only [In64] at *; omega) | (simp [In64] at *; omega) | (simp_all; done) | skip)
                  refine qa (qm ?_)
                  refine hk_region fun K hK => runs_eval tab_ok ?_
                  simp only [ev0, evA, evB, evP, fl, gp, tab, simprocAttr, reduceCtorEq, reduceIte]
                  refine fin_stop trivial (runs_call (hcq) rfl rfl rfl (by simp only [dstOk, Nat.reduceLT]) (by repeat (first | exact trivial | constructor)) (runs_eval tab_ok ?_))
                  simp only [ev0, evA, evB, evP, fl, gp, tab, simprocAttr, reduceCtorEq, reduceIte]
                  refine fin_run ?_ (hK _ ?_) <;> clear hK <;> clear K
                  · (first | exact trivial | omega | (simp only [In64] at *; omega) | (simp [In64] at *; omega) | (simp_all; done) | skip)
                  refine qa (qm ?_)
                  cases bx
                  · have hb0 : b = false := hbb
                    subst hb0
                    refine hk_region fun K hK => runs_eval tab_ok ?_
                    simp only [ev0, evA, evB, evP, fl, gp, tab, simprocAttr, reduceCtorEq, reduceIte, ll_length, hlenx, hlenq, hlen, bne_self_eq_false, beq_self_eq_true]
                    refine fin_run ?_ (hK _ ?_) <;> clear hK <;> clear K
                    · first | exact trivial | (simp only [In64]; omega)
                    refine qa (qk ?_)
                    simp only [Tryd.results5, enA, ev0, evA, evB, evP, fl, gp, tab, simprocAttr, reduceCtorEq, reduceIte]
                    all_goals (first | rfl | exact decide_eq_true (by omega) | trivial)
                  · have hb1 : b = bq := by rw [hbb, Bool.true_and]
                    subst hb1
                    refine hk_region fun K hK => runs_eval tab_ok ?_
                    simp only [ev0, evA, evB, evP, fl, gp, tab, simprocAttr, reduceCtorEq, reduceIte, ll_length, hlenx, hlenq, hlen, bne_self_eq_false, beq_self_eq_true]
                    refine fin_run ?_ (hK _ ?_) <;> clear hK <;> clear K
                    · first | exact trivial | (simp only [In64]; omega)
                    refine qa (qk ?_)
                    simp only [Tryd.results5, enA, ev0, evA, evB, evP, fl, gp, tab, simprocAttr, reduceCtorEq, reduceIte]
                    all_goals (first | rfl | exact decide_eq_true (by omega) | trivial)
theorem lawSlv_c (N : Int) (m l : List Int) (hm : m.length ≤ 17592186043904) (hl : l.length ≤ 17592186043904) : FnC Tryd.prog 5 [gp N m, .list (il l)] (.bool true) := by
  by_cases hf : (gf N m).1 = 0
  · obtain ⟨n, e, h, heI⟩ := gf_ok hf
    obtain rfl := h.1
    exact lawSlv_ok h l hl
  · exact lawSlv_no N m l (by omega) hf
end
end Go.Proofs.YtjbfkdaodfdpcaaDoor

/-
  What the listed package-level variable gives a walk: a table of numbers. Conditions: none; written by a program of this repo.
-/
set_option linter.all false
namespace Go.Proofs.YtjbfkdaodfdpcaaDoor
open Go.Pv Go.ChangeShapes Go.WideShapes Go.ChangeAt Go.WideElems Go.RowKit

theorem own : ownKnob Tryd.prog.godebug = none := by kernel_rfl
theorem laidOut : laidOutB Tryd.prog = true := by kernel_rfl
theorem gG : Tryd.prog.globalNamed "math/bits.deBruijn64tab" = some 0 := by kernel_rfl
theorem tG : (Tryd.prog.globals[0]?).map (·.type) = some 145 := by kernel_rfl
theorem cG : Tryd.prog.cellsOf 5 = 1 := by kernel_rfl
/-- The door's own heap meets the condition. -/
theorem door_met (os : Os) (args : Array Value) : laidMetH Tryd.prog [("math/bits.deBruijn64tab", Rows.laid_math_bits_deBruijn64tab)] ((World.doorLaid Tryd.prog 4000 os).forCall (fun _ _ => 0) ⟨#[], args, []⟩).memory :=
  laidMetH_of_parts3 (fuel := 8) (laidMet_of_run' 8 (by kernel_rfl) (by kernel_rfl)) (by kernel_rfl) (by kernel_rfl)

def convD : DataW Unit → PV
  | .lit (.int k n) => .int k n
  | _ => .nil
def datum : List (DataW Unit) → List PV := List.map convD
theorem glob_datum : (match (Rows.laid_math_bits_deBruijn64tab : DataW Unit) with | .agg l => datum l | _ => []) = glob0 := rfl

theorem laid_ok {W : World} (h : laidMetH Tryd.prog [("math/bits.deBruijn64tab", Rows.laid_math_bits_deBruijn64tab)] W) : LaidW (fun b => b < W.heap.size) W := by
  refine ⟨fun b h => h, fun g l hg => ?_⟩
  have hg2 : g = 0 ∧ l = glob0 := by
    unfold gv at hg
    by_cases e : g = 0
    · subst e; exact ⟨rfl, (Option.some.inj hg).symm⟩
    · have : (g == 0) = false := by simpa using e
      rw [this] at hg; simp at hg
  obtain ⟨rfl, rfl⟩ := hg2
  rw [MakeChecks.laidMetH_plain _ _ _ (by kernel_rfl)] at h
  obtain ⟨ps, ⟨g0, t0, cs0, f0, p0, q0, hg0, ht0, hv0, hd0, _, _⟩, _, _⟩ := h
  obtain rfl := Option.some.inj (gG.symm.trans hg0)
  obtain rfl := Option.some.inj (tG.symm.trans ht0)
  obtain ⟨xs, m1, rfl, hx1, hlen, hn3, hel⟩ := DataW.trod_array Tryd.underlying145 hd0
  have hd1 : Rows.laid_math_bits_deBruijn64tab = DataW.agg (xs.map (·.1)) := congrArg Prod.fst hx1
  have hgl : glob0 = datum (xs.map (·.1)) := by
    rw [← glob_datum, hd1]
  have key : ∀ c (h : c < glob0.length), W.cell? ⟨0, 0 + c, none⟩ = some ((cs0[c]?).getD undef) ∧ Reads (fun b => b < W.heap.size) W glob0[c] ((cs0[c]?).getD undef) := by
    intro c hc
    have hc2 : c < 64 := Nat.lt_of_lt_of_le hc (by decide)
    have hcx : c < xs.length := by omega
    have h1 := hel c hc2
    rw [List.getElem?_eq_getElem hcx] at h1
    obtain ⟨k, e1, e2, _⟩ := DataW.trod_int Tryd.underlying5 h1
    rw [cG] at e1
    have e3 : cs0.toList[c]? = some (.int .u8 k) := by
      have := congrArg (fun l => l[0]?) e1
      simpa [List.getElem?_take, List.getElem?_drop] using this
    have e4 : cs0[c]? = some (.int .u8 k) := by simpa using e3
    have e5 : glob0[c] = .int .u8 k := by
      have : glob0[c]? = (datum (xs.map (·.1)))[c]? := by rw [hgl]
      rw [List.getElem?_eq_getElem hc] at this
      simp only [datum, List.getElem?_map, List.getElem?_eq_getElem hcx, Option.map_some, Option.some.injEq] at this
      exact this.trans (by rw [e2]; rfl)
    refine ⟨?_, ?_⟩
    · rw [e4, Nat.zero_add, World.var?_cell gG hv0 c, e4]; rfl
    · rw [e4]
      exact e5 ▸ (Reads.int .u8 k)
  refine .ptr _ _ _ (fun c => (cs0[c]?).getD undef) ?_ (fun c hc => (key c hc).1) fun c hc => (key c hc).2
  have := (key 0 (by decide)).1
  unfold World.cell? at this
  rcases Nat.lt_or_ge 0 W.heap.size with h | h
  · exact h
  · exfalso
    rw [Array.getElem?_eq_none h] at this
    simp at this
end Go.Proofs.YtjbfkdaodfdpcaaDoor
