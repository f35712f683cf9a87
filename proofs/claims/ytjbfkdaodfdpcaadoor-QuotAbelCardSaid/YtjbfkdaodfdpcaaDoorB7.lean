/-
  Texts of this proof, one behind the other: what each says stands at its head. Conditions: none.
-/
import Derived.Test.YtjbfkdaodfdpcaaDoorB6
import Derived.Test.YtjbfkdaodfdpcaaDoorB4
import Derived.Test.YtjbfkdaodfdpcaaDoorB5
import Derived.RangeFuncRecord
import Derived.RangeFuncLeaves
import Derived.Shelf.Sort.Plain
import Derived.Shelf.Slices.In.SortNone
import Derived.Test.YtjbfkdaodfdpcaaDoorProg
import Derived.Shelf.Lays
import Derived.Test.YtjbfkdaodfdpcaaDoorRows
import Derived.ProofKit
import Derived.LaidMore
import Derived.OpenShut
import Derived.Stop.Joined

/-
  Composition series: parts of parts; the greatest normal subgroup; Composition walked. Conditions: none.
-/
set_option linter.all false
namespace Go.Proofs.YtjbfkdaodfdpcaaDoor
open Go.Pv

/-! ### What a part has, in the whole -/

def lft (p q : Nat → Bool) (x : Nat) : Bool := p x && q (pix p x)
theorem lat_pix {n x : Nat} {p : Nat → Bool} (hx : x < n) (hp : p x = true) : lat n p (pix p x) = x := by
  have := (pix_at hx hp).2
  unfold lat; rw [this]; rfl
theorem lat_low {n i : Nat} {p : Nat → Bool} (hi : i < (thl n p).length) : lat (n + 1) p i = lat n p i := by
  unfold lat
  rw [thl_succ, List.getD_eq_getElem?_getD, List.getElem?_append_left hi, ← List.getD_eq_getElem?_getD]
theorem lft_thl (p q : Nat → Bool) : ∀ n, (thl (thl n p).length q).map (fun z => ((lat n p z.toNat : Nat) : Int)) = thl n (lft p q)
  | 0 => rfl
  | n + 1 => by
    have ih := lft_thl p q n
    have hc : (thl (thl n p).length q).map (fun z => ((lat (n + 1) p z.toNat : Nat) : Int)) = thl n (lft p q) := by
      rw [← ih]
      refine List.map_congr_left fun z hz => ?_
      obtain ⟨i, i1, _, rfl⟩ := mem_thl.1 hz
      rw [Int.toNat_natCast, lat_low i1]
    rw [thl_succ n (lft p q)]
    by_cases hp : p n = true
    · have hl : (thl (n + 1) p).length = (thl n p).length + 1 := by rw [thl_succ, if_pos hp]; simp
      have ha : lat (n + 1) p (thl n p).length = n := by
        unfold lat
        rw [thl_succ, if_pos hp]; simp [List.getD]
      rw [hl, thl_succ, List.map_append, hc]
      have hv : lft p q n = q (thl n p).length := by unfold lft pix; rw [hp]; rfl
      rw [hv]
      by_cases hq : q (thl n p).length = true
      · rw [if_pos hq, if_pos hq]; simp [ha]
      · rw [if_neg hq, if_neg hq]; rfl
    · have hl : thl (n + 1) p = thl n p := by rw [thl_succ, if_neg hp]; simp
      have hv : lft p q n = false := by unfold lft; rw [Bool.not_eq_true] at hp; rw [hp]; rfl
      rw [hl, hv, if_neg (by simp), List.append_nil]
      exact hc

section
variable {n e : Nat} {f : Nat → Nat → Nat} {p q : Nat → Bool}

theorem pop_pix (hs : Sub n f e p) {a b : Nat} (ha : a < n) (hb : b < n) (pa : p a = true) (pb : p b = true) : pop n f p (pix p a) (pix p b) = pix p (f a b) := by
  unfold pop; rw [lat_pix ha pa, lat_pix hb pb]
theorem cjr_in (G : Grp n f e) (hs : Sub n f e p) {x a : Nat} (hx : x < n) (ha : a < n) (px : p x = true) (pa : p a = true) : p (cjr n f e x a) = true := by
  have hi := G.iv_lt ha
  have pi := hs.inv _ ha pa
  exact hs.mul _ _ (G.cl _ _ hi hx) ha (hs.mul _ _ hi hx pi px) pa

/-- A normal subgroup of a subgroup, not all of it; with any thing more, and what that is conjugated to, it is all. -/
structure Mxn (n : Nat) (f : Nat → Nat → Nat) (e : Nat) (p p' : Nat → Bool) : Prop where
  sub : Sub n f e p'
  le : ∀ x, x < n → p' x = true → p x = true
  nml : ∀ a x, a < n → x < n → p a = true → p' x = true → p' (cjr n f e x a) = true
  ne : ∃ x, x < n ∧ p x = true ∧ p' x = false
  mx : ∀ x, x < n → p x = true → p' x = false → ∀ t : Nat → Bool, Sub n f e t → (∀ y, y < n → p' y = true → t y = true) → (∀ b, b < n → p b = true → t (cjr n f e x b) = true) → ∀ y, y < n → p y = true → t y = true

def wth (q : Nat → Bool) (a x : Nat) : Bool := q x || decide (x = a)
/-- What the greatest normal subgroup is. -/
structure Grt (n : Nat) (f : Nat → Nat → Nat) (e : Nat) (q : Nat → Bool) : Prop where
  sub : Sub n f e q
  nml : Nml n f e q
  ne : ∃ x, x < n ∧ q x = false
  mx : ∀ a, a < n → q a = false → ∀ y, y < n → Gen n f e (cup n f e (wth q a)) y

theorem Mxn.lt (h : Mxn n f e p q) : (mem n q).length < (mem n p).length := mem_lt h.le fun hh => by
  obtain ⟨x, x1, x2, x3⟩ := h.ne
  rw [hh x x1] at x3; rw [x3] at x2; cases x2
end

/-- The first thing with which a set makes not all. -/
def gfa (n : Nat) (cl : (Nat → Bool) → Nat → Nat → Bool) (p : Nat → Bool) (a : Nat) : Bool := !p a && decide ((thl n (cl p a)).length < n)
def gnx (n : Nat) (cl : (Nat → Bool) → Nat → Nat → Bool) (p : Nat → Bool) : Nat → Bool :=
  match fst' (gfa n cl p) n with
  | some a => cl p a
  | none => p
section
variable {n e : Nat} {f : Nat → Nat → Nat}
end

/-! ### greatest -/

/-! ### Composition -/

theorem Grt.cong {n e : Nat} {f g : Nat → Nat → Nat} {q : Nat → Bool} (G : Grp n f e) (h : ∀ a b, a < n → b < n → g a b = f a b) (hq : Grt n g e q) : Grt n f e q :=
  ⟨hq.sub.cong_op G h, hq.nml.cong_op G h, hq.ne, fun a ha hqa y hy => (Gen.mono (fun b _ hb => by rwa [cup_cong G h] at hb) (hq.mx a ha hqa y hy)).cong_op G h⟩

section
variable {n e : Nat} {m : List Int}
/-- A composition series: from all on, to one thing. -/
structure Cps (n : Nat) (f : Nat → Nat → Nat) (e : Nat) (T : Nat → Nat → Bool) (K : Nat) : Prop where
  all : T 0 = fun _ => true
  sub : ∀ k, k ≤ K → Sub n f e (T k)
  mxn : ∀ k, k < K → Mxn n f e (T k) (T (k + 1))
  last : (thl n (T K)).length = 1
  short : K ≤ 5

def lml (n : Nat) (p : Nat → Bool) (l : List Int) : List Int := l.map fun z => ((lat n p z.toNat : Nat) : Int)
end
end Go.Proofs.YtjbfkdaodfdpcaaDoor

/-
  Direct products of subgroups. Conditions: none.
-/
set_option linter.all false
namespace Go.Proofs.YtjbfkdaodfdpcaaDoor

section
variable {n e : Nat} {f : Nat → Nat → Nat} {p q : Nat → Bool}
/-- All things of one commute with all of the other. -/
def Cmm (n : Nat) (f : Nat → Nat → Nat) (p q : Nat → Bool) : Prop := ∀ a b, a < n → b < n → p a = true → q b = true → f a b = f b a
end
end Go.Proofs.YtjbfkdaodfdpcaaDoor

/-
  Plain: chains of subgroups whose steps are as small as can be (Jordan and Hoelder). Conditions: none.
-/
set_option linter.all false
namespace Go.Proofs.YtjbfkdaodfdpcaaDoor

section
variable {n e : Nat} {f : Nat → Nat → Nat} {p q a b : Nat → Bool}
theorem Mxn.nz (G : Grp n f e) (h : Mxn n f e p q) {c : Nat} (hc : c < n) (pc : p c = true) : nzr n f e q c = true :=
  G.nzr_of h.sub hc fun y hy hh => by
    obtain ⟨x, x1, x2, rfl⟩ := shf_iff.1 hh
    exact h.nml c x hc x1 pc x2
theorem Mxn.congr_l {p' : Nat → Bool} (h : Mxn n f e p q) (hp : ∀ x, x < n → p' x = p x) : Mxn n f e p' q where
  sub := h.sub
  le x hx hq := by rw [hp x hx]; exact h.le x hx hq
  nml c x hc hx pc := h.nml c x hc hx (by rw [← hp c hc]; exact pc)
  ne := by obtain ⟨x, x1, x2, x3⟩ := h.ne; exact ⟨x, x1, by rw [hp x x1]; exact x2, x3⟩
  mx x hx px qx t ht h1 h2 y hy py := h.mx x hx (by rwa [← hp x hx]) qx t ht h1 (fun c hc pc => h2 c hc (by rwa [hp c hc])) y hy (by rwa [← hp y hy])
theorem Mxn.congr_r {q' : Nat → Bool} (G : Grp n f e) (h : Mxn n f e p q) (hs : Sub n f e q') (hq : ∀ x, x < n → q' x = q x) : Mxn n f e p q' where
  sub := hs
  le x hx hh := h.le x hx (by rwa [← hq x hx])
  nml c x hc hx pc hh := by
    rw [hq _ (G.cjr_lt hx hc)]
    exact h.nml c x hc hx pc (by rwa [← hq x hx])
  ne := by obtain ⟨x, x1, x2, x3⟩ := h.ne; exact ⟨x, x1, x2, by rw [hq x x1]; exact x3⟩
  mx x hx px qx t ht h1 h2 y hy py := h.mx x hx px (by rwa [← hq x hx]) t ht (fun y hy hh => h1 y hy (by rwa [hq y hy])) h2 y hy py

/-- A chain from a subgroup down to the one. -/
def Chn (n : Nat) (f : Nat → Nat → Nat) (e : Nat) : (Nat → Bool) → List (Nat → Bool) → Prop
  | p, [] => ∀ x, x < n → p x = true → x = e
  | p, q :: l => Mxn n f e p q ∧ Chn n f e q l
def idx (n : Nat) : (Nat → Bool) → List (Nat → Bool) → List Nat
  | _, [] => []
  | p, q :: l => (mem n p).length / (mem n q).length :: idx n q l
theorem Chn.congr {p' : Nat → Bool} (hp : ∀ x, x < n → p' x = p x) : ∀ {l : List (Nat → Bool)}, Chn n f e p l → Chn n f e p' l ∧ idx n p' l = idx n p l
  | [], h => ⟨fun x hx hh => h x hx (by rwa [← hp x hx]), rfl⟩
  | q :: l, h => ⟨⟨h.1.congr_l hp, h.2⟩, by show _ / _ :: _ = _ / _ :: _; rw [mem_congr hp]⟩
end
end Go.Proofs.YtjbfkdaodfdpcaaDoor

/-
  Plain: homomorphisms of a subgroup onto a group; chains go there and back; steps in which things commute. Conditions: none.
-/
set_option linter.all false
namespace Go.Proofs.YtjbfkdaodfdpcaaDoor

/-- A homomorphism of a subgroup onto a group. -/
structure Hm (n : Nat) (f : Nat → Nat → Nat) (e : Nat) (p : Nat → Bool) (k : Nat) (g : Nat → Nat → Nat) (d : Nat) (φ : Nat → Nat) : Prop where
  grp : Grp k g d
  sub : Sub n f e p
  lt : ∀ x, x < n → p x = true → φ x < k
  mul : ∀ x y, x < n → y < n → p x = true → p y = true → φ (f x y) = g (φ x) (φ y)
  onto : ∀ i, i < k → ∃ x, x < n ∧ p x = true ∧ φ x = i

section
variable {n e k d : Nat} {f g : Nat → Nat → Nat} {p : Nat → Bool} {φ : Nat → Nat}
theorem Hm.one (H : Hm n f e p k g d φ) (G : Grp n f e) : φ e = d := by
  have h1 := H.mul e e G.el G.el H.sub.one H.sub.one
  have hl := H.lt e G.el H.sub.one
  rw [G.one_l e G.el] at h1
  have h2 : g (φ e) d = g (φ e) (φ e) := by rw [← h1, H.grp.one_r _ hl]
  exact (H.grp.cancel_l hl H.grp.el hl h2).symm
theorem Hm.iv (H : Hm n f e p k g d φ) (G : Grp n f e) {x : Nat} (hx : x < n) (px : p x = true) : φ (Go.Proofs.YtjbfkdaodfdpcaaDoor.iv n f e x) = Go.Proofs.YtjbfkdaodfdpcaaDoor.iv k g d (φ x) := by
  have ix := G.iv_lt hx
  have pix := H.sub.inv x hx px
  refine H.grp.iv_unique (H.lt x hx px) (H.lt _ ix pix) (.inl ?_)
  rw [← H.mul _ _ hx ix px pix, G.mul_iv hx, H.one G]
theorem Hm.cjr (H : Hm n f e p k g d φ) (G : Grp n f e) {x c : Nat} (hx : x < n) (hc : c < n) (px : p x = true) (pc : p c = true) : φ (Go.Proofs.YtjbfkdaodfdpcaaDoor.cjr n f e x c) = Go.Proofs.YtjbfkdaodfdpcaaDoor.cjr k g d (φ x) (φ c) := by
  have ic := G.iv_lt hc
  have pi := H.sub.inv c hc pc
  show φ (f (f _ _) _) = g (g _ _) _
  rw [H.mul _ _ (G.cl _ _ ic hx) hc (H.sub.mul _ _ ic hx pi px) pc, H.mul _ _ ic hx pi px, H.iv G hc pc]
theorem Hm.cmt (H : Hm n f e p k g d φ) (G : Grp n f e) {x c : Nat} (hx : x < n) (hc : c < n) (px : p x = true) (pc : p c = true) : φ (Go.Proofs.YtjbfkdaodfdpcaaDoor.cmt n f e x c) = Go.Proofs.YtjbfkdaodfdpcaaDoor.cmt k g d (φ x) (φ c) := by
  have ic := G.iv_lt hc
  have ix := G.iv_lt hx
  have pic := H.sub.inv c hc pc
  have pix := H.sub.inv x hx px
  show φ (f (f _ _) (f _ _)) = g (g _ _) (g _ _)
  rw [H.mul _ _ (G.cl _ _ ix ic) (G.cl _ _ hx hc) (H.sub.mul _ _ ix ic pix pic) (H.sub.mul _ _ hx hc px pc), H.mul _ _ ix ic pix pic, H.mul _ _ hx hc px pc, H.iv G hc pc, H.iv G hx px]
theorem cmt_in {q : Nat → Bool} (G : Grp n f e) (hq : Sub n f e q) {x c : Nat} (hx : x < n) (hc : c < n) (px : q x = true) (pc : q c = true) : q (cmt n f e x c) = true :=
  hq.mul _ _ (G.cl _ _ (G.iv_lt hx) (G.iv_lt hc)) (G.cl _ _ hx hc) (hq.mul _ _ (G.iv_lt hx) (G.iv_lt hc) (hq.inv _ hx px) (hq.inv _ hc pc)) (hq.mul _ _ hx hc px pc)

/-- What goes into a set. -/
def pre (p : Nat → Bool) (φ : Nat → Nat) (b : Nat → Bool) (x : Nat) : Bool := p x && b (φ x)
theorem pre_iff {b : Nat → Bool} {x : Nat} : pre p φ b x = true ↔ p x = true ∧ b (φ x) = true := by unfold pre; rw [Bool.and_eq_true]
theorem Hm.pre_sub (H : Hm n f e p k g d φ) (G : Grp n f e) {b : Nat → Bool} (hb : Sub k g d b) : Sub n f e (pre p φ b) :=
  sub_of G (pre_iff.2 ⟨H.sub.one, by rw [H.one G]; exact hb.one⟩) fun x y hx hy h1 h2 => by
    obtain ⟨h1, h3⟩ := pre_iff.1 h1
    obtain ⟨h2, h4⟩ := pre_iff.1 h2
    exact pre_iff.2 ⟨H.sub.mul x y hx hy h1 h2, by rw [H.mul x y hx hy h1 h2]; exact hb.mul _ _ (H.lt x hx h1) (H.lt y hy h2) h3 h4⟩
theorem Hm.of_pre (H : Hm n f e p k g d φ) (G : Grp n f e) {a b : Nat → Bool} (hb : Sub k g d b) (h : Mxn n f e (pre p φ a) (pre p φ b)) : Mxn k g d a b where
  sub := hb
  le i hi bi := by
    obtain ⟨x, x1, x2, rfl⟩ := H.onto i hi
    exact (pre_iff.1 (h.le x x1 (pre_iff.2 ⟨x2, bi⟩))).2
  nml c i hc hi ac bi := by
    obtain ⟨x, x1, x2, rfl⟩ := H.onto i hi
    obtain ⟨y, y1, y2, rfl⟩ := H.onto c hc
    have := (pre_iff.1 (h.nml y x y1 x1 (pre_iff.2 ⟨y2, ac⟩) (pre_iff.2 ⟨x2, bi⟩))).2
    rwa [H.cjr G x1 y1 x2 y2] at this
  ne := by
    obtain ⟨x, x1, x2, x3⟩ := h.ne
    obtain ⟨px, ax⟩ := pre_iff.1 x2
    unfold pre at x3
    rw [px, Bool.true_and] at x3
    exact ⟨_, H.lt x x1 px, ax, x3⟩
  mx i hi ai bi t ht h1 h2 j hj aj := by
    obtain ⟨x, x1, x2, rfl⟩ := H.onto i hi
    obtain ⟨y, y1, y2, rfl⟩ := H.onto j hj
    refine (pre_iff.1 (h.mx x x1 (pre_iff.2 ⟨x2, ai⟩) (by unfold pre; rw [bi, Bool.and_false]) (pre p φ t) (H.pre_sub G ht) (fun z hz hh => ?_) (fun c hc hh => ?_) y y1 (pre_iff.2 ⟨y2, aj⟩))).2
    · obtain ⟨pz, bz⟩ := pre_iff.1 hh
      exact pre_iff.2 ⟨pz, h1 _ (H.lt z hz pz) bz⟩
    · obtain ⟨pc, ac⟩ := pre_iff.1 hh
      exact pre_iff.2 ⟨cjr_in G H.sub x1 hc x2 pc, by rw [H.cjr G x1 hc x2 pc]; exact h2 _ (H.lt c hc pc) ac⟩

/-- Things of the first commute, up to the second. -/
def Abl (n : Nat) (f : Nat → Nat → Nat) (e : Nat) (p q : Nat → Bool) : Prop := ∀ x y, x < n → y < n → p x = true → p y = true → q (cmt n f e x y) = true
def AbC (n : Nat) (f : Nat → Nat → Nat) (e : Nat) : (Nat → Bool) → List (Nat → Bool) → Prop
  | _, [] => True
  | p, q :: l => Abl n f e p q ∧ AbC n f e q l
theorem AbC.congr {p' : Nat → Bool} (hp : ∀ x, x < n → p' x = p x) : ∀ {l : List (Nat → Bool)}, AbC n f e p l → AbC n f e p' l
  | [], _ => trivial
  | q :: l, h => ⟨fun x y hx hy h1 h2 => h.1 x y hx hy (by rwa [← hp x hx]) (by rwa [← hp y hy]), h.2⟩
theorem Chn.subs (G : Grp n f e) : ∀ {l : List (Nat → Bool)} {p : Nat → Bool}, Chn n f e p l → ∀ q ∈ l, Sub n f e q
  | [], _, _, q, hq => by simp at hq
  | r :: l, p, h, q, hq => by
    rcases List.mem_cons.1 hq with rfl | hq
    · exact h.1.sub
    · exact Chn.subs G h.2 q hq

end
end Go.Proofs.YtjbfkdaodfdpcaaDoor

/-
  Plain law, FRATTINI'S ARGUMENT. Conditions: none.
-/
set_option linter.all false
namespace Go.Proofs.YtjbfkdaodfdpcaaDoor
open Go.Pv

section
variable {n e P : Nat} {f : Nat → Nat → Nat} {q s : Nat → Bool}

theorem Syl.cong {f g : Nat → Nat → Nat} {j t : Nat} (hY : Syl n g e P s j t) (G : Grp n f e) (h : ∀ a b, a < n → b < n → g a b = f a b) : Syl n f e P s j t :=
  ⟨hY.sub.cong_op G h, hY.len, hY.num, hY.non⟩

/-- A part's set, as a set of the whole. -/
def upt (q s : Nat → Bool) (y : Nat) : Bool := q y && s (pix q y)
end
end Go.Proofs.YtjbfkdaodfdpcaaDoor

/-
  Nilpotent groups; classes of a quotient; the quotient by commutators. Conditions: none.
-/
set_option linter.all false
namespace Go.Proofs.YtjbfkdaodfdpcaaDoor
open Go.Pv

section
variable {n : Nat} {f : Nat → Nat → Nat} {e : Nat}
/-! ### Classes of a quotient -/

theorem lead_le {k : Nat} {r1 r2 : Nat → Nat → Bool} (E1 : Eqv n r1) (E2 : Eqv k r2) (rep : Nat → Nat) (hr : ∀ i, i < k → rep i < n) (h : ∀ i j, i < k → j < k → r1 (rep i) (rep j) = true → r2 i j = true) : (mem k (lead r2)).length ≤ (mem n (lead r1)).length := by
  have hex : ∀ i, ∃ x, i < k → x < n ∧ lead r1 x = true ∧ r1 x (rep i) = true := fun i => by
    by_cases hi : i < k
    · obtain ⟨x, h1, h2, h3⟩ := E1.least (hr i hi)
      exact ⟨x, fun _ => ⟨h1, h2, h3⟩⟩
    · exact ⟨0, fun h => absurd h hi⟩
  obtain ⟨g, hg⟩ := Classical.axiomOfChoice hex
  rw [← List.length_map (f := g) («as» := mem k (lead r2))]
  refine List.Nodup.length_le_of_subset (nodup_map (List.nodup_range.filter _) fun i hi j hj he => ?_) fun x hx => ?_
  · obtain ⟨i1, i2⟩ := mem_mem.1 hi
    obtain ⟨j1, j2⟩ := mem_mem.1 hj
    obtain ⟨a1, a2, a3⟩ := hg i i1
    obtain ⟨b1, b2, b3⟩ := hg j j1
    rw [← he] at b3
    exact E2.lead_eq i1 j1 i2 j2 (h i j i1 j1 (E1.trans _ _ _ (hr i i1) a1 (hr j j1) (E1.symm _ _ a1 (hr i i1) a3) b3))
  · obtain ⟨i, hi, rfl⟩ := List.mem_map.1 hx
    obtain ⟨i1, i2⟩ := mem_mem.1 hi
    exact mem_mem.2 ⟨(hg i i1).1, (hg i i1).2.1⟩
theorem Qm.iv {k : Nat} {cl rep : Nat → Nat} (Q : Qm n f k cl rep) (G : Grp n f e) {a : Nat} (ha : a < n) : iv k (qop f cl rep) (cl e) (cl a) = cl (Go.Proofs.YtjbfkdaodfdpcaaDoor.iv n f e a) :=
  ((Q.grp G).iv_unique (Q.lt a ha) (Q.lt _ (G.iv_lt ha)) (.inl (by rw [Q.op ha (G.iv_lt ha), G.mul_iv ha]))).symm
theorem Qm.cjb {k : Nat} {cl rep : Nat → Nat} (Q : Qm n f k cl rep) (G : Grp n f e) {x y : Nat} (hx : x < n) (hy : y < n) (h : cjb n f e x y = true) : cjb k (qop f cl rep) (cl e) (cl x) (cl y) = true := by
  obtain ⟨a, ha, rfl⟩ := cjb_iff.1 h
  have ia := G.iv_lt ha
  refine cjb_iff.2 ⟨cl a, Q.lt a ha, ?_⟩
  rw [Q.iv G ha, Q.op ia hx, Q.op (G.cl _ _ ia hx) ha]
/-- A quotient has no more classes. -/
theorem Qm.classes {k : Nat} {cl rep : Nat → Nat} (Q : Qm n f k cl rep) (G : Grp n f e) : (mem k (lead (Go.Proofs.YtjbfkdaodfdpcaaDoor.cjb k (qop f cl rep) (cl e)))).length ≤ (mem n (lead (Go.Proofs.YtjbfkdaodfdpcaaDoor.cjb n f e))).length :=
  lead_le G.cjb_eqv (Q.grp G).cjb_eqv rep Q.rlt fun i j hi hj h => by
    have := Q.cjb G (Q.rlt i hi) (Q.rlt j hj) h
    rwa [Q.at_ i hi, Q.at_ j hj] at this
end
end Go.Proofs.YtjbfkdaodfdpcaaDoor

/-
  Plain law: nilpotent is just where all of Sylow's subgroups are normal; both central series are as long. Conditions: none.
-/
set_option linter.all false
namespace Go.Proofs.YtjbfkdaodfdpcaaDoor
open Go.Pv

section
variable {n e P : Nat} {f : Nat → Nat → Nat} {p q s : Nat → Bool}

/-! ### Both series -/
section
variable {nl : (Nat → Bool) → Nat → Bool}
theorem Stp.le {T : Nat → Nat → Bool} {K k : Nat} (h : Stp n T K) (he : ∀ a, a < n → T (k + 1) a = T k a) : K ≤ k :=
  Nat.le_of_not_lt fun hh => h.ne k hh he
end

/-! ### Sylow's subgroups of what is nilpotent -/
/-! ### A group of a power of P things, and a normal subgroup that is not all -/
/-! ### Where all of Sylow's subgroups are normal -/
/-- What commutes with a thing, up to a normal subgroup. -/
def ctz (n : Nat) (f : Nat → Nat → Nat) (e : Nat) (z : Nat → Bool) (x y : Nat) : Bool := z (cmt n f e x y)
end
end Go.Proofs.YtjbfkdaodfdpcaaDoor

/-
  Plain: each step of a chain has its quotient; it is of a prime where things commute; what is solvable. Conditions: none.
-/
set_option linter.all false
namespace Go.Proofs.YtjbfkdaodfdpcaaDoor

section
variable {n e : Nat} {f : Nat → Nat → Nat} {p q : Nat → Bool}
/-- The quotient of a group. -/
theorem quot_hm (G : Grp n f e) (hq : Sub n f e q) (hN : Nml n f e q) : Hm n f e (fun _ => true) (cst n (dco n f q (onp e))).length (qop f (clq n (dco n f q (onp e))) (rpq n (dco n f q (onp e)))) (clq n (dco n f q (onp e)) e) (clq n (dco n f q (onp e))) := by
  have E := G.dco_eqv hq G.onp_sub
  have Q := cst_qm G E fun a b c d ha hb hc hd h1 h2 => G.rco_cong hq hN ha hb hc hd h1 h2
  exact ⟨Q.grp G, G.all_sub, fun x hx _ => Q.lt x hx, fun x y hx hy _ _ => (Q.op hx hy).symm, fun i hi => ⟨_, Q.rlt i hi, rfl, Q.at_ i hi⟩⟩
theorem quot_ker (G : Grp n f e) (hq : Sub n f e q) {x : Nat} (hx : x < n) : clq n (dco n f q (onp e)) x = clq n (dco n f q (onp e)) e ↔ q x = true := by
  have E := G.dco_eqv hq G.onp_sub
  rw [clq_iff E hx G.el, G.rco_iff hx G.el, G.one_l _ (G.iv_lt hx)]
  exact ⟨fun h => by have := hq.inv _ (G.iv_lt hx) h; rwa [G.iv_iv hx] at this, fun h => hq.inv x hx h⟩
theorem quot_num (G : Grp n f e) (hq : Sub n f e q) : (cst n (dco n f q (onp e))).length * (mem n q).length = n := by
  rw [cst_len]; exact G.rco_num hq
/-- The part of a group. -/
theorem part_hm (G : Grp n f e) (hp : Sub n f e p) : Hm n f e p (thl n p).length (pop n f p) (pix p e) (pix p) :=
  ⟨ptb_grp G hp, hp, fun x hx px => (pix_at hx px).1, fun x y hx hy px py => (pop_pix hp hx hy px py).symm, fun i hi => ⟨lat n p i, (lat_at hi).1, (lat_at hi).2.1, (lat_at hi).2.2.2⟩⟩
variable {k k2 d d2 : Nat} {g g2 : Nat → Nat → Nat} {φ ψ : Nat → Nat}
theorem Hm.comp (H : Hm n f e p k g d φ) (K : Hm k g d (fun _ => true) k2 g2 d2 ψ) : Hm n f e p k2 g2 d2 fun x => ψ (φ x) where
  grp := K.grp
  sub := H.sub
  lt x hx px := K.lt _ (H.lt x hx px) rfl
  mul x y hx hy px py := by
    show ψ (φ (f x y)) = _
    rw [H.mul x y hx hy px py, K.mul _ _ (H.lt x hx px) (H.lt y hy py) rfl rfl]
  onto i hi := by
    obtain ⟨y, y1, _, rfl⟩ := K.onto i hi
    obtain ⟨x, x1, x2, rfl⟩ := H.onto y y1
    exact ⟨x, x1, x2, rfl⟩
theorem Hm.cong_op (H : Hm n f e p k g d φ) (h : ∀ a b, a < k → b < k → g2 a b = g a b) (G2 : Grp k g2 d) : Hm n f e p k g2 d φ :=
  ⟨G2, H.sub, H.lt, fun x y hx hy px py => by rw [H.mul x y hx hy px py, h _ _ (H.lt x hx px) (H.lt y hy py)], H.onto⟩
/-- What stands of a smaller one in the part. -/
def dwn (n : Nat) (p q : Nat → Bool) (i : Nat) : Bool := q (lat n p i)
theorem lft_dwn (hle : ∀ x, x < n → q x = true → p x = true) : ∀ x, x < n → lft p (dwn n p q) x = q x := fun x hx => by
  unfold lft dwn
  cases px : p x with
  | false =>
    cases qx : q x with
    | false => rfl
    | true => rw [hle x hx qx] at px; cases px
  | true => rw [lat_pix hx px]; rfl
theorem dwn_sub (G : Grp n f e) (hp : Sub n f e p) (hq : Sub n f e q) : Sub (thl n p).length (pop n f p) (pix p e) (dwn n p q) :=
  sub_of (ptb_grp G hp) (by unfold dwn; rw [lat_pix G.el hp.one]; exact hq.one) fun i j hi hj h1 h2 => by
    unfold dwn at h1 h2 ⊢
    rw [(pop_at G hp hi hj).2]
    exact hq.mul _ _ (lat_at hi).1 (lat_at hj).1 h1 h2
theorem dwn_nml (G : Grp n f e) (hp : Sub n f e p) : Nml (thl n p).length (pop n f p) (pix p e) (dwn n p q) ↔ ∀ a x, a < n → x < n → p a = true → p x = true → q x = true → q (cjr n f e x a) = true := by
  have H := part_hm G hp
  constructor
  · intro h a x ha hx pa px qx
    have := h (pix p a) (pix_at ha pa).1 (pix p x) (pix_at hx px).1 (by unfold dwn; rw [lat_pix hx px]; exact qx)
    rw [← H.cjr G hx ha px pa] at this
    unfold dwn at this
    rwa [lat_pix (G.cjr_lt hx ha) (cjr_in G hp hx ha px pa)] at this
  · intro h i hi j hj hd
    obtain ⟨a1, a2, _, a4⟩ := lat_at hi
    obtain ⟨b1, b2, _, b4⟩ := lat_at hj
    have := h _ _ a1 b1 a2 b2 hd
    rw [← a4, ← b4, ← H.cjr G b1 a1 b2 a2]
    unfold dwn
    rwa [lat_pix (G.cjr_lt b1 a1) (cjr_in G hp b1 a1 b2 a2)]
theorem dwn_len (hle : ∀ x, x < n → q x = true → p x = true) : (mem (thl n p).length (dwn n p q)).length = (mem n q).length := by
  have h1 := congrArg List.length (lft_thl p (dwn n p q) n)
  rw [List.length_map] at h1
  have e1 : (thl (thl n p).length (dwn n p q)).length = (mem (thl n p).length (dwn n p q)).length := thl_len _ _
  have e2 : (thl n (lft p (dwn n p q))).length = (mem n (lft p (dwn n p q))).length := thl_len _ _
  rw [← e1, h1, e2, mem_congr (lft_dwn hle)]

/-- The quotient of a subgroup by what is normal in it. -/
theorem step_hm (G : Grp n f e) (hp : Sub n f e p) (hq : Sub n f e q) (hle : ∀ x, x < n → q x = true → p x = true) (hN : ∀ a x, a < n → x < n → p a = true → p x = true → q x = true → q (cjr n f e x a) = true) :
    ∃ k g d φ, Hm n f e p k g d φ ∧ (∀ x, x < n → pre p φ (onp d) x = q x) ∧ k * (mem n q).length = (mem n p).length := by
  have H := part_hm G hp
  have P := H.grp
  have ds := dwn_sub G hp hq
  have K := quot_hm P ds ((dwn_nml G hp).2 hN)
  refine ⟨_, _, _, _, H.comp K, fun x hx => ?_, ?_⟩
  · unfold pre
    cases px : p x with
    | false =>
      cases qx : q x with
      | false => rfl
      | true => rw [hle x hx qx] at px; cases px
    | true =>
      rw [Bool.true_and, Bool.eq_iff_iff, onp_iff, quot_ker P ds (H.lt x hx px)]
      unfold dwn
      rw [lat_pix hx px]
  · have := quot_num P ds
    rw [dwn_len hle] at this
    have e1 : (thl n p).length = (mem n p).length := thl_len _ _
    rw [← e1]; exact this
theorem Mxn.hm (G : Grp n f e) (hp : Sub n f e p) (h : Mxn n f e p q) : ∃ k g d φ, Hm n f e p k g d φ ∧ (∀ x, x < n → pre p φ (onp d) x = q x) ∧ k * (mem n q).length = (mem n p).length ∧ Mxn k g d (fun _ => true) (onp d) := by
  obtain ⟨k, g, d, φ, H, h1, h2⟩ := step_hm G hp h.sub h.le fun a x ha hx pa _ qx => h.nml a x ha hx pa qx
  refine ⟨k, g, d, φ, H, h1, h2, H.of_pre G H.grp.onp_sub ?_⟩
  refine (h.congr_r G (H.pre_sub G H.grp.onp_sub) h1).congr_l fun x hx => ?_
  show (p x && true) = p x
  rw [Bool.and_true]

end
end Go.Proofs.YtjbfkdaodfdpcaaDoor

/-
  Plain: homomorphisms, and how a map of some things is spread. Conditions: none.
-/
set_option linter.all false
namespace Go.Proofs.YtjbfkdaodfdpcaaDoor

/-- A homomorphism. -/
structure Hmo (n : Nat) (f : Nat → Nat → Nat) (N : Nat) (g : Nat → Nat → Nat) (φ : Nat → Nat) : Prop where
  lt : ∀ a, a < n → φ a < N
  mul : ∀ a b, a < n → b < n → φ (f a b) = g (φ a) (φ b)

/-- It takes some things where it is told. -/
def Ext (n : Nat) (f : Nat → Nat → Nat) (N : Nat) (g : Nat → Nat → Nat) (F T : List Nat) (φ : Nat → Nat) : Prop := Hmo n f N g φ ∧ ∀ i, i < F.length → φ (F.getD i 0) = T.getD i 0

/-- What is reached: a thing, and what must stand for it. -/
inductive Rch (f : Nat → Nat → Nat) (e : Nat) (g : Nat → Nat → Nat) (d : Nat) (F T : List Nat) : Nat → Nat → Prop
  | one : Rch f e g d F T e d
  | step {a y : Nat} (i : Nat) (hi : i < F.length) (h : Rch f e g d F T a y) : Rch f e g d F T (f a (F.getD i 0)) (g y (T.getD i 0))

/-- A map as a row: -1 where nothing stands yet. -/
def prow (n : Nat) (S : Nat → Bool) (ψ : Nat → Nat) : List Int := (List.range n).map fun a => if S a then ((ψ a : Nat) : Int) else -1
def tbm (n : Nat) (φ : Nat → Nat) : List Int := (List.range n).map fun a => ((φ a : Nat) : Int)
def upd1 (S : Nat → Bool) (b : Nat) : Nat → Bool := fun x => S x || decide (x = b)
def updF (ψ : Nat → Nat) (b y : Nat) : Nat → Nat := fun x => if x = b then y else ψ x

theorem tbm_len (n : Nat) (φ : Nat → Nat) : (tbm n φ).length = n := by simp [tbm]
theorem tbm_get {n : Nat} {φ : Nat → Nat} {a : Nat} (ha : a < n) : (tbm n φ).getD a 0 = ((φ a : Nat) : Int) := by
  simp [tbm, List.getD, ha]
theorem upd1_true {S : Nat → Bool} {b x : Nat} : upd1 S b x = true ↔ S x = true ∨ x = b := by simp [upd1]
theorem updF_ne {ψ : Nat → Nat} {b y x : Nat} (h : x ≠ b) : updF ψ b y x = ψ x := by simp [updF, h]
theorem updF_eq {ψ : Nat → Nat} {b y : Nat} : updF ψ b y b = y := by simp [updF]

/-- How many stand out. -/
def outs (n : Nat) (S : Nat → Bool) : Nat := (mem n fun a => !S a).length
section
variable {n N e d : Nat} {f g : Nat → Nat → Nat} {F T : List Nat} {φ : Nat → Nat}
theorem Hmo.one (G : Grp n f e) (K : Grp N g d) (h : Hmo n f N g φ) : φ e = d := by
  have h1 := h.mul e e G.el G.el
  rw [G.one_l e G.el] at h1
  have h2 := h.lt e G.el
  have h3 := K.assoc (iv N g d (φ e)) (φ e) (φ e) (K.iv_lt h2) h2 h2
  rw [K.iv_mul h2, ← h1, K.iv_mul h2, K.one_l _ h2] at h3
  exact h3
/-- Where the spreading stands. -/
structure Sprd (n : Nat) (f : Nat → Nat → Nat) (e N : Nat) (g : Nat → Nat → Nat) (d : Nat) (F T : List Nat) (S : Nat → Bool) (ψ : Nat → Nat) (W : List Nat) : Prop where
  one : S e = true ∧ ψ e = d
  lt : ∀ a, a < n → S a = true → ψ a < N
  rch : ∀ a, a < n → S a = true → Rch f e g d F T a (ψ a)
  wt : ∀ a ∈ W, a < n ∧ S a = true
  cl : ∀ a, a < n → S a = true → a ∉ W → ∀ i, i < F.length → S (f a (F.getD i 0)) = true ∧ ψ (f a (F.getD i 0)) = g (ψ a) (T.getD i 0)

/-- Within a round. -/
structure Sprd2 (n : Nat) (f : Nat → Nat → Nat) (e N : Nat) (g : Nat → Nat → Nat) (d : Nat) (F T : List Nat) (a0 i0 : Nat) (S : Nat → Bool) (ψ : Nat → Nat) (W : List Nat) : Prop where
  one : S e = true ∧ ψ e = d
  lt : ∀ a, a < n → S a = true → ψ a < N
  rch : ∀ a, a < n → S a = true → Rch f e g d F T a (ψ a)
  wt : ∀ a ∈ W, a < n ∧ S a = true
  ha : a0 < n ∧ S a0 = true
  cl : ∀ a, a < n → S a = true → a ∉ W → ∀ i, i < F.length → (a = a0 → i < i0) → S (f a (F.getD i 0)) = true ∧ ψ (f a (F.getD i 0)) = g (ψ a) (T.getD i 0)

theorem Sprd.begin (G : Grp n f e) (K : Grp N g d) : Sprd n f e N g d F T (upd1 (fun _ => false) e) (updF (fun _ => 0) e d) [e] where
  one := ⟨by simp [upd1], updF_eq⟩
  lt a ha h := by
    have : a = e := by simpa [upd1] using h
    rw [this, updF_eq]; exact K.el
  rch a ha h := by
    have : a = e := by simpa [upd1] using h
    rw [this, updF_eq]; exact .one
  wt a ha := by
    have : a = e := by simpa using ha
    rw [this]; exact ⟨G.el, by simp [upd1]⟩
  cl a ha h hw := by
    have : a = e := by simpa [upd1] using h
    exact absurd (by simp [this]) hw
theorem Sprd.pop {S : Nat → Bool} {ψ : Nat → Nat} {a : Nat} {W : List Nat} (h : Sprd n f e N g d F T S ψ (a :: W)) : Sprd2 n f e N g d F T a 0 S ψ W where
  one := h.one
  lt := h.lt
  rch := h.rch
  wt x hx := h.wt x (by simp [hx])
  ha := h.wt a (by simp)
  cl x hx hS hW i hi hai := by
    by_cases e : x = a
    · have := hai e; omega
    · exact h.cl x hx hS (by simp [e, hW]) i hi
theorem Sprd2.done {S : Nat → Bool} {ψ : Nat → Nat} {a : Nat} {W : List Nat} (h : Sprd2 n f e N g d F T a F.length S ψ W) : Sprd n f e N g d F T S ψ W where
  one := h.one
  lt := h.lt
  rch := h.rch
  wt := h.wt
  cl x hx hS hW i hi := h.cl x hx hS hW i hi fun _ => hi
theorem Sprd2.push (G : Grp n f e) (K : Grp N g d) (hF : ∀ i, i < F.length → F.getD i 0 < n) (hT : ∀ i, i < F.length → T.getD i 0 < N) {S : Nat → Bool} {ψ : Nat → Nat} {a i : Nat} {W : List Nat} (h : Sprd2 n f e N g d F T a i S ψ W) (hi : i < F.length) (hb : S (f a (F.getD i 0)) = false) :
    Sprd2 n f e N g d F T a (i + 1) (upd1 S (f a (F.getD i 0))) (updF ψ (f a (F.getD i 0)) (g (ψ a) (T.getD i 0))) (W ++ [f a (F.getD i 0)]) := by
  have hbn := G.cl _ _ h.ha.1 (hF i hi)
  have hne : ∀ x, S x = true → x ≠ f a (F.getD i 0) := fun x hx e => by rw [e, hb] at hx; cases hx
  refine ⟨⟨upd1_true.2 (.inl h.one.1), by rw [updF_ne (hne _ h.one.1)]; exact h.one.2⟩, fun x hx hS => ?_, fun x hx hS => ?_, fun x hx => ?_, ⟨h.ha.1, upd1_true.2 (.inl h.ha.2)⟩, fun x hx hS hW j hj hji => ?_⟩
  · rcases upd1_true.1 hS with h1 | rfl
    · rw [updF_ne (hne _ h1)]; exact h.lt x hx h1
    · rw [updF_eq]; exact K.cl _ _ (h.lt a h.ha.1 h.ha.2) (hT i hi)
  · rcases upd1_true.1 hS with h1 | rfl
    · rw [updF_ne (hne _ h1)]; exact h.rch x hx h1
    · rw [updF_eq]; exact .step i hi (h.rch a h.ha.1 h.ha.2)
  · rcases List.mem_append.1 hx with hx | hx
    · obtain ⟨h1, h2⟩ := h.wt x hx
      exact ⟨h1, upd1_true.2 (.inl h2)⟩
    · have : x = f a (F.getD i 0) := by simpa using hx
      rw [this]; exact ⟨hbn, upd1_true.2 (.inr rfl)⟩
  · have hW1 : x ∉ W := fun hh => hW (by simp [hh])
    have hxb : x ≠ f a (F.getD i 0) := fun hh => hW (by simp [hh])
    have hSx : S x = true := (upd1_true.1 hS).resolve_right hxb
    rw [updF_ne hxb]
    by_cases e : x = a ∧ j = i
    · obtain ⟨rfl, rfl⟩ := e
      exact ⟨upd1_true.2 (.inr rfl), updF_eq⟩
    · obtain ⟨k1, k2⟩ := h.cl x hx hSx hW1 j hj fun ea => by
        have := hji ea
        have : j ≠ i := fun ej => e ⟨ea, ej⟩
        omega
      exact ⟨upd1_true.2 (.inl k1), by rw [updF_ne (hne _ k1)]; exact k2⟩
theorem Sprd2.keep {S : Nat → Bool} {ψ : Nat → Nat} {a i : Nat} {W : List Nat} (h : Sprd2 n f e N g d F T a i S ψ W) (hb : S (f a (F.getD i 0)) = true) (hv : ψ (f a (F.getD i 0)) = g (ψ a) (T.getD i 0)) :
    Sprd2 n f e N g d F T a (i + 1) S ψ W :=
  ⟨h.one, h.lt, h.rch, h.wt, h.ha, fun x hx hS hW j hj hji => by
    by_cases e : x = a ∧ j = i
    · obtain ⟨rfl, rfl⟩ := e
      exact ⟨hb, hv⟩
    · exact h.cl x hx hS hW j hj fun ea => by
        have := hji ea
        have : j ≠ i := fun ej => e ⟨ea, ej⟩
        omega⟩

/-- At the end all is reached, and it is a homomorphism. -/
theorem Sprd.fin (G : Grp n f e) (K : Grp N g d) (hF : ∀ i, i < F.length → F.getD i 0 < n) (hT : ∀ i, i < F.length → T.getD i 0 < N) (hgen : ∀ a, a < n → Gen n f e (fun x => decide (x ∈ F)) a) {S : Nat → Bool} {ψ : Nat → Nat} (h : Sprd n f e N g d F T S ψ []) :
    (∀ a, a < n → S a = true) ∧ Ext n f N g F T ψ := by
  have hall : ∀ a, a < n → S a = true := fun a ha => Gen.least (H := fun a => S a = true) h.one.1 (fun a b hga hb hp hSa => by
    have hp : b ∈ F := by simpa using hp
    obtain ⟨i, hi, rfl⟩ := List.getElem_of_mem hp
    have e1 : F[i] = F.getD i 0 := by simp [List.getD, List.getElem?_eq_getElem hi]
    rw [e1]
    exact (h.cl a (hga.lt G) hSa (by simp) i hi).1) (hgen a ha)
  have hmul : ∀ a, a < n → ∀ b, b < n → ψ (f a b) = g (ψ a) (ψ b) := fun a ha b hb => by
    refine Gen.least (H := fun b => ψ (f a b) = g (ψ a) (ψ b)) ?_ (fun c x hgc hx hp ih => ?_) (hgen b hb)
    · rw [G.one_r a ha, h.one.2, K.one_r _ (h.lt a ha (hall a ha))]
    · have hp : x ∈ F := by simpa using hp
      obtain ⟨i, hi, rfl⟩ := List.getElem_of_mem hp
      have e1 : F[i] = F.getD i 0 := by simp [List.getD, List.getElem?_eq_getElem hi]
      rw [e1]
      have hc := hgc.lt G
      have hac := G.cl a c ha hc
      rw [← G.assoc a c _ ha hc (hF i hi), (h.cl _ hac (hall _ hac) (by simp) i hi).2, (h.cl c hc (hall c hc) (by simp) i hi).2, ih, K.assoc _ _ _ (h.lt a ha (hall a ha)) (h.lt c hc (hall c hc)) (hT i hi)]
  refine ⟨hall, ⟨fun a ha => h.lt a ha (hall a ha), fun a b ha hb => hmul a ha b hb⟩, fun i hi => ?_⟩
  have h1 := (h.cl e G.el h.one.1 (by simp) i hi).2
  rw [G.one_l _ (hF i hi), h.one.2, K.one_l _ (hT i hi)] at h1
  exact h1
end
end Go.Proofs.YtjbfkdaodfdpcaaDoor

/-
  Walks: maps of groups: the fault of a map. Conditions: none.
-/
set_option linter.all false
namespace Go.Proofs.YtjbfkdaodfdpcaaDoor
open Go.Pv

/-- The fault of two groups. -/
def tg (N : Int) (m : List Int) (N' : Int) (m' : List Int) : Int × Int := if (gf N m).1 = 0 then gf N' m' else gf N m

theorem tg_zero {N N' : Int} {m m' : List Int} (h : (tg N m N' m').1 = 0) : (gf N m).1 = 0 ∧ (gf N' m').1 = 0 := by
  unfold tg at h
  by_cases h1 : (gf N m).1 = 0
  · rw [if_pos h1] at h; exact ⟨h1, h⟩
  · rw [if_neg h1] at h; exact absurd h h1

theorem twoGroups_c (N : Int) (m : List Int) (N' : Int) (m' : List Int) (hm : m.length ≤ 1000000000000000) (hm' : m'.length ≤ 1000000000000000) : FnC Tryd.prog 62 [gp N m, gp N' m'] (fl (tg N m N' m')) := by
  refine fnc_of tab_ok Tryd.func62 rfl (by kernel_rfl) (by rw [Tryd.ntmps62]; exact Nat.le_add_left 2 _) ?_; rw [Tryd.ntmps62]
  refine qm ?_
  refine hk_region fun K hK => runs_eval tab_ok ?_
  simp only [ev0, evA, evB, evP, fl, gp, tab, simprocAttr, reduceCtorEq, reduceIte]
  refine fin_run ?_ (hK _ ?_) <;> clear hK <;> clear K
  · (first | exact trivial | omega | (simp only [In64] at *; omega) | (simp [In64] at *; omega) | (simp_all; done) | skip)
  refine qa (qm ?_)
  refine hk_region fun K hK => runs_eval tab_ok ?_
  simp only [ev0, evA, evB, evP, fl, gp, tab, simprocAttr, reduceCtorEq, reduceIte]
  refine fin_stop trivial (runs_call (gf_c N m hm) rfl rfl rfl (by simp only [dstOk, Nat.reduceLT]) (by repeat (first | exact trivial | constructor)) (runs_eval tab_ok ?_))
  simp only [ev0, evA, evB, evP, fl, gp, tab, simprocAttr, reduceCtorEq, reduceIte]
  refine fin_run ?_ (hK _ ?_) <;> clear hK <;> clear K
  · (first | exact trivial | omega | (simp only [In64] at *; omega) | (simp [In64] at *; omega) | (simp_all; done) | skip)
  refine qa (qm (qm ?_))
  refine hk_region fun K hK => runs_eval tab_ok ?_
  simp only [ev0, evA, evB, evP, fl, gp, tab, simprocAttr, reduceCtorEq, reduceIte]
  refine fin_run ?_ (hK _ ?_) <;> clear hK <;> clear K
  · (first | exact trivial | omega | (simp only [In64] at *; omega) | (simp [In64] at *; omega) | (simp_all; done) | skip)
  refine qa ?_
  refine hk_cond rfl (fun hC1 => ?_) (fun hC1 => ?_)
  · (try simp only [nhs] at hC1)
    refine hk_region fun K hK => runs_eval tab_ok ?_
    simp only [ev0, evA, evB, evP, fl, gp, tab, simprocAttr, reduceCtorEq, reduceIte]
    refine fin_stop trivial (runs_call (gf_c N' m' hm') rfl rfl rfl (by simp only [dstOk, Nat.reduceLT]) (by repeat (first | exact trivial | constructor)) (runs_eval tab_ok ?_))
    simp only [ev0, evA, evB, evP, fl, gp, tab, simprocAttr, reduceCtorEq, reduceIte]
    refine fin_run ?_ (hK _ ?_) <;> clear hK <;> clear K
    · (first | exact trivial | omega | (simp only [In64] at *; omega) | (simp [In64] at *; omega) | (simp_all; done) | skip)
    refine qa (qm ?_)
    refine hk_region fun K hK => runs_eval tab_ok ?_
    simp only [ev0, evA, evB, evP, fl, gp, tab, simprocAttr, reduceCtorEq, reduceIte]
    refine fin_run ?_ (hK _ ?_) <;> clear hK <;> clear K
    · (first | exact trivial | omega | (simp only [In64] at *; omega) | (simp [In64] at *; omega) | (simp_all; done) | skip)
    refine qa (qk ?_)
    simp only [Tryd.results62, enA, ev0, evA, evB, evP, fl, gp, tab, simprocAttr, reduceCtorEq, reduceIte]
    all_goals (unfold tg; rw [if_pos hC1]; simp)
  · (try simp only [nhs] at hC1)
    refine qh (qa (qm ?_))
    refine hk_region fun K hK => runs_eval tab_ok ?_
    simp only [ev0, evA, evB, evP, fl, gp, tab, simprocAttr, reduceCtorEq, reduceIte]
    refine fin_run ?_ (hK _ ?_) <;> clear hK <;> clear K
    · (first | exact trivial | omega | (simp only [In64] at *; omega) | (simp [In64] at *; omega) | (simp_all; done) | skip)
    refine qa (qk ?_)
    simp only [Tryd.results62, enA, ev0, evA, evB, evP, fl, gp, tab, simprocAttr, reduceCtorEq, reduceIte]
    all_goals (unfold tg; rw [if_neg hC1]; simp)

theorem homBoth_c (N : Int) (m : List Int) (N' : Int) (m' : List Int) (hm : m.length ≤ 1000000000000000) (hm' : m'.length ≤ 1000000000000000) : FnC Tryd.prog 107 [gp N m, gp N' m'] (fl (tg N m N' m')) := by
  refine fnc_of tab_ok Tryd.func107 rfl (by kernel_rfl) (by rw [Tryd.ntmps107]; exact Nat.le_add_left 2 _) ?_; rw [Tryd.ntmps107]
  refine qm ?_
  refine hk_region fun K hK => runs_eval tab_ok ?_
  simp only [ev0, evA, evB, evP, fl, gp, tab, simprocAttr, reduceCtorEq, reduceIte]
  refine fin_run ?_ (hK _ ?_) <;> clear hK <;> clear K
  · (first | exact trivial | omega | (simp only [In64] at *; omega) | (simp [In64] at *; omega) | (simp_all; done) | skip)
  refine qa (qm (qm ?_))
  refine hk_region fun K hK => runs_eval tab_ok ?_
  simp only [ev0, evA, evB, evP, fl, gp, tab, simprocAttr, reduceCtorEq, reduceIte]
  refine fin_stop trivial (runs_call (check_c N m hm) rfl rfl rfl (by simp only [dstOk, Nat.reduceLT]) (by repeat (first | exact trivial | constructor)) (runs_eval tab_ok ?_))
  simp only [ev0, evA, evB, evP, fl, gp, tab, simprocAttr, reduceCtorEq, reduceIte]
  refine fin_run ?_ (hK _ ?_) <;> clear hK <;> clear K
  · (first | exact trivial | omega | (simp only [In64] at *; omega) | (simp [In64] at *; omega) | (simp_all; done) | skip)
  refine qa (qm ?_)
  refine hk_region fun K hK => runs_eval tab_ok ?_
  simp only [ev0, evA, evB, evP, fl, gp, tab, simprocAttr, reduceCtorEq, reduceIte]
  refine fin_run ?_ (hK _ ?_) <;> clear hK <;> clear K
  · (first | exact trivial | omega | (simp only [In64] at *; omega) | (simp [In64] at *; omega) | (simp_all; done) | skip)
  refine qa ?_
  refine hk_cond rfl (fun hC1 => ?_) (fun hC1 => ?_)
  · (try simp only [nhs] at hC1)
    refine qm ?_
    refine hk_region fun K hK => runs_eval tab_ok ?_
    simp only [ev0, evA, evB, evP, fl, gp, tab, simprocAttr, reduceCtorEq, reduceIte]
    refine fin_run ?_ (hK _ ?_) <;> clear hK <;> clear K
    · (first | exact trivial | omega | (simp only [In64] at *; omega) | (simp [In64] at *; omega) | (simp_all; done) | skip)
    refine qa (qk (qb ?_))
    simp only [Tryd.results107, enA, ev0, evA, evB, evP, fl, gp, tab, simprocAttr, reduceCtorEq, reduceIte]
    all_goals (unfold tg; rw [if_neg hC1]; simp)
  · (try simp only [nhs] at hC1)
    refine qh (qa (qm ?_))
    refine hk_region fun K hK => runs_eval tab_ok ?_
    simp only [ev0, evA, evB, evP, fl, gp, tab, simprocAttr, reduceCtorEq, reduceIte]
    refine fin_stop trivial (runs_call (check_c N' m' hm') rfl rfl rfl (by simp only [dstOk, Nat.reduceLT]) (by repeat (first | exact trivial | constructor)) (runs_eval tab_ok ?_))
    simp only [ev0, evA, evB, evP, fl, gp, tab, simprocAttr, reduceCtorEq, reduceIte]
    refine fin_run ?_ (hK _ ?_) <;> clear hK <;> clear K
    · (first | exact trivial | omega | (simp only [In64] at *; omega) | (simp [In64] at *; omega) | (simp_all; done) | skip)
    refine qa (qk ?_)
    simp only [Tryd.results107, enA, ev0, evA, evB, evP, fl, gp, tab, simprocAttr, reduceCtorEq, reduceIte]
    all_goals (unfold tg; rw [if_pos hC1]; simp)

theorem homFlt_c (c a : Int) : FnC Tryd.prog 108 [.int .i64 c, .int .i64 a] (fl (c, a)) := by
  refine fnc_of tab_ok Tryd.func108 rfl (by kernel_rfl) (by rw [Tryd.ntmps108]; exact Nat.le_add_left 2 _) ?_; rw [Tryd.ntmps108]
  refine qm ?_
  refine hk_region fun K hK => runs_eval tab_ok ?_
  simp only [ev0, evA, evB, evP, fl, gp, tab, simprocAttr, reduceCtorEq, reduceIte]
  refine fin_run ?_ (hK _ ?_) <;> clear hK <;> clear K
  · (first | exact trivial | omega | (simp only [In64] at *; omega) | (simp [In64] at *; omega) | (simp_all; done) | skip)
  refine qa (qm ?_)
  refine hk_region fun K hK => runs_eval tab_ok ?_
  simp only [ev0, evA, evB, evP, fl, gp, tab, simprocAttr, reduceCtorEq, reduceIte]
  refine fin_run ?_ (hK _ ?_) <;> clear hK <;> clear K
  · (first | exact trivial | omega | (simp only [In64] at *; omega) | (simp [In64] at *; omega) | (simp_all; done) | skip)
  refine qa (qk ?_)
  simp only [Tryd.results108, enA, ev0, evA, evB, evP, fl, gp, tab, simprocAttr, reduceCtorEq, reduceIte]
  all_goals (rfl)

/-- The value of a map. -/
def hv (l : List Int) (a : Nat) : Nat := (l.getD a 0).toNat
def hgood (m m' l : List Int) (n n' a : Nat) : Prop := ∀ b, b < n → op m' n' (hv l a) (hv l b) = hv l (op m n a b)
instance (m m' l : List Int) (n n' a : Nat) : Decidable (hgood m m' l n n' a) := by unfold hgood; infer_instance
def homf2 (m m' l : List Int) (n n' : Nat) : Int × Int :=
  match fst' (fun a => decide (¬ hgood m m' l n n' a)) n with
  | some a => (7, (a : Int))
  | none => (0, 0)
/-- THE FAULT of a map of groups. -/
def homf (N : Int) (m : List Int) (N' : Int) (m' l : List Int) : Int × Int :=
  if ¬ (tg N m N' m').1 = 0 then tg N m N' m'
  else if ¬ (l.length : Int) = N then (8, 0)
  else match fst' (bad N' l) l.length with
    | some i => (3, (i : Int))
    | none => homf2 m m' l N.toNat N'.toNat

theorem homf_tg {N N' : Int} {m m' l : List Int} (h : ¬ (tg N m N' m').1 = 0) : homf N m N' m' l = tg N m N' m' := by unfold homf; rw [if_pos h]
theorem homf_8 {N N' : Int} {m m' l : List Int} (h : (tg N m N' m').1 = 0) (h2 : ¬ (l.length : Int) = N) : homf N m N' m' l = (8, 0) := by unfold homf; rw [if_neg (by simpa using h), if_pos h2]
theorem homf_3 {N N' : Int} {m m' l : List Int} (h : (tg N m N' m').1 = 0) (h2 : (l.length : Int) = N) {i : Nat} (hi : i < l.length) (hb : bad N' l i = true) (hj : ∀ j, j < i → bad N' l j = false) : homf N m N' m' l = (3, (i : Int)) := by
  unfold homf; rw [if_neg (by simpa using h), if_neg (by simpa using h2), fst_some hi hb hj]
theorem homf_2 {n n' : Nat} {m m' l : List Int} (h : (tg n m n' m').1 = 0) (h2 : (l.length : Int) = n) (hj : ∀ j, j < l.length → bad n' l j = false) : homf n m n' m' l = homf2 m m' l n n' := by
  unfold homf; rw [if_neg (by simpa using h), if_neg (by simpa using h2), fst_none hj]
  rfl
theorem homf2_7 {n n' : Nat} {m m' l : List Int} {a : Nat} (ha : a < n) (hn : ¬ hgood m m' l n n' a) (hj : ∀ j, j < a → hgood m m' l n n' j) : homf2 m m' l n n' = (7, (a : Int)) := by
  have : fst' (fun a => decide (¬ hgood m m' l n n' a)) n = some a := fst_some ha (decide_eq_true hn) fun j h => decide_eq_false fun h' => h' (hj j h)
  unfold homf2; rw [this]
theorem homf2_0 {n n' : Nat} {m m' l : List Int} (hj : ∀ j, j < n → hgood m m' l n n' j) : homf2 m m' l n n' = (0, 0) := by
  have : fst' (fun a => decide (¬ hgood m m' l n n' a)) n = none := fst_none fun j h => decide_eq_false fun h' => h' (hj j h)
  unfold homf2; rw [this]
theorem hv_at {n' : Nat} {l : List Int} {a : Nat} (h : bad n' l a = false) : l.getD a 0 = ((hv l a : Nat) : Int) ∧ hv l a < n' := by
  have := of_decide_eq_false h
  unfold hv
  omega

/-- A map of groups. -/
def Hom (m m' l : List Int) (n n' : Nat) : Prop := l.length = n ∧ (∀ a, a < n → l.getD a 0 = ((hv l a : Nat) : Int) ∧ hv l a < n') ∧ ∀ a, a < n → hgood m m' l n n' a
theorem homf_ok {N N' : Int} {m m' l : List Int} (h : (homf N m N' m' l).1 = 0) : ∃ n e n' e' : Nat, GT N m n e ∧ GT N' m' n' e' ∧ Hom m m' l n n' ∧ homf N m N' m' l = (0, 0) := by
  by_cases h1 : (tg N m N' m').1 = 0
  · obtain ⟨z1, z2⟩ := tg_zero h1
    obtain ⟨n, e, g, _⟩ := gf_ok z1
    obtain ⟨n', e', g', _⟩ := gf_ok z2
    obtain rfl := g.1
    obtain rfl := g'.1
    by_cases h2 : (l.length : Int) = n
    · cases h3 : fst' (bad n' l) l.length with
      | some i =>
        obtain ⟨s1, s2, s3⟩ := fst_spec h3
        rw [homf_3 h1 h2 s1 s2 s3] at h
        simp at h
      | none =>
        have hb := fst_spec0 h3
        rw [homf_2 h1 h2 hb] at h ⊢
        cases h4 : fst' (fun a => decide (¬ hgood m m' l n n' a)) n with
        | some a =>
          unfold homf2 at h
          rw [h4] at h
          simp at h
        | none =>
          have hg : ∀ a, a < n → hgood m m' l n n' a := fun a ha => Classical.not_not.1 (of_decide_eq_false (fst_spec0 h4 a ha))
          exact ⟨n, e, n', e', g, g', ⟨by omega, fun a ha => hv_at (hb a (by omega)), hg⟩, homf2_0 hg⟩
    · rw [homf_8 h1 h2] at h; simp at h
  · rw [homf_tg h1] at h; exact absurd h h1

set_option maxHeartbeats 2000000 in
theorem homFault_c (N : Int) (m : List Int) (N' : Int) (m' l : List Int) (hm : m.length ≤ 1000000000000000) (hm' : m'.length ≤ 1000000000000000) : FnC Tryd.prog 41 [gp N m, gp N' m', .list (il l)] (fl (homf N m N' m' l)) := by
  refine fnc_of tab_ok Tryd.func41 rfl (by kernel_rfl) (by rw [Tryd.ntmps41]; exact Nat.le_add_left 3 _) ?_; rw [Tryd.ntmps41]
  refine qm ?_
  refine hk_region fun K hK => runs_eval tab_ok ?_
  simp only [ev0, evA, evB, evP, fl, gp, tab, simprocAttr, reduceCtorEq, reduceIte]
  refine fin_run ?_ (hK _ ?_) <;> clear hK <;> clear K
  · (first | exact trivial | omega | (simp only [In64] at *; omega) | (simp [In64] at *; omega) | (simp_all; done) | skip)
  refine qa (qm ?_)
  refine hk_region fun K hK => runs_eval tab_ok ?_
  simp only [ev0, evA, evB, evP, fl, gp, tab, simprocAttr, reduceCtorEq, reduceIte]
  refine fin_stop trivial (runs_call (twoGroups_c N m N' m' hm hm') rfl rfl rfl (by simp only [dstOk, Nat.reduceLT]) (by repeat (first | exact trivial | constructor)) (runs_eval tab_ok ?_))
  simp only [ev0, evA, evB, evP, fl, gp, tab, simprocAttr, reduceCtorEq, reduceIte]
  refine fin_run ?_ (hK _ ?_) <;> clear hK <;> clear K
  · (first | exact trivial | omega | (simp only [In64] at *; omega) | (simp [In64] at *; omega) | (simp_all; done) | skip)
  refine qa (qm (qm ?_))
  refine hk_region fun K hK => runs_eval tab_ok ?_
  simp only [ev0, evA, evB, evP, fl, gp, tab, simprocAttr, reduceCtorEq, reduceIte]
  refine fin_run ?_ (hK _ ?_) <;> clear hK <;> clear K
  · (first | exact trivial | omega | (simp only [In64] at *; omega) | (simp [In64] at *; omega) | (simp_all; done) | skip)
  refine qa ?_
  refine hk_cond rfl (fun hC1 => ?_) (fun hC1 => ?_)
  · (try simp only [nhs] at hC1)
    refine qm ?_
    refine hk_region fun K hK => runs_eval tab_ok ?_
    simp only [ev0, evA, evB, evP, fl, gp, tab, simprocAttr, reduceCtorEq, reduceIte]
    refine fin_run ?_ (hK _ ?_) <;> clear hK <;> clear K
    · (first | exact trivial | omega | (simp only [In64] at *; omega) | (simp [In64] at *; omega) | (simp_all; done) | skip)
    refine qa (qk (qb ?_))
    simp only [Tryd.results41, enA, ev0, evA, evB, evP, fl, gp, tab, simprocAttr, reduceCtorEq, reduceIte]
    all_goals (rw [homf_tg hC1]; simp)
  · (try simp only [nhs] at hC1)
    obtain ⟨z1, z2⟩ := tg_zero hC1
    obtain ⟨n, e, g, _⟩ := gf_ok z1
    obtain ⟨n', e', g', _⟩ := gf_ok z2
    obtain rfl := g.1
    obtain rfl := g'.1
    have T := g.2.1
    have T' := g'.2.1
    have hb := T.big
    refine qh (qa (qm (qm ?_)))
    refine hk_region fun K hK => runs_eval tab_ok ?_
    simp only [ev0, evA, evB, evP, fl, gp, tab, simprocAttr, reduceCtorEq, reduceIte]
    refine fin_run ?_ (hK _ ?_) <;> clear hK <;> clear K
    · (first | exact trivial | omega | (simp only [In64] at *; omega) | (simp [In64] at *; omega) | (simp_all; done) | skip)
    refine qa ?_
    refine hk_cond rfl (fun hC2 => ?_) (fun hC2 => ?_)
    · (try simp only [nhs] at hC2)
      refine qm ?_
      refine hk_region fun K hK => runs_eval tab_ok ?_
      simp only [ev0, evA, evB, evP, fl, gp, tab, simprocAttr, reduceCtorEq, reduceIte]
      refine fin_stop trivial (runs_call (f_c 8 0) rfl rfl rfl (by simp only [dstOk, Nat.reduceLT]) (by repeat (first | exact trivial | constructor)) (runs_eval tab_ok ?_))
      simp only [ev0, evA, evB, evP, fl, gp, tab, simprocAttr, reduceCtorEq, reduceIte]
      refine fin_run ?_ (hK _ ?_) <;> clear hK <;> clear K
      · (first | exact trivial | omega | (simp only [In64] at *; omega) | (simp [In64] at *; omega) | (simp_all; done) | skip)
      refine qa (qk (qb ?_))
      simp only [Tryd.results41, enA, ev0, evA, evB, evP, fl, gp, tab, simprocAttr, reduceCtorEq, reduceIte]
      all_goals (rw [homf_8 hC1 hC2]; simp)
    · (try simp only [nhs] at hC2)
      refine qh (qa (qm (qm ?_)))
      refine hk_region fun K hK => runs_eval tab_ok ?_
      simp only [ev0, evA, evB, evP, fl, gp, tab, simprocAttr, reduceCtorEq, reduceIte]
      refine fin_run trivial (hK _ ?_) <;> clear hK <;> clear K
      refine qa (ql ?_)
      refine hk_loop (ι := Nat) (fun i => ⟨79, [(2, .p (.list (il l))), (3, .ptr 0 0), (4, .ptr 1 0), (6, .ptr 2 0), (8, .p (.int .i64 i))], [.own [.p (.int .i64 n), .p (.list (il m))], .own [.p (.int .i64 n'), .p (.list (il m'))], .own [.p (.int .i64 0), .p (.int .i64 0)]]⟩) (fun i => i ≤ l.length ∧ ∀ j, j < i → bad n' l j = false) (fun i => l.length - i) 0 ⟨Nat.zero_le _, fun j hj => by omega⟩ [0, 1, 2] (by simp only [leq, leA, ev0, evA, evB, evP, fl, gp, tab, simprocAttr, reduceCtorEq, reduceIte] <;> trivial) fun i hi => ?_
      obtain ⟨hi1, hi2⟩ := hi
      refine qm (qm ?_)
      refine hk_region fun K hK => runs_eval tab_ok ?_
      simp only [ev0, evA, evB, evP, fl, gp, tab, simprocAttr, reduceCtorEq, reduceIte]
      refine fin_run trivial (hK _ ?_) <;> clear hK <;> clear K
      refine qa ?_
      refine hk_cond rfl (fun hC3 => ?_) (fun hC3 => ?_)
      · (try simp only [nhs] at hC3)
        have hlt : i < l.length := by omega
        refine qh (qa (qm (ql (qm ?_))))
        by_cases g9a : l.getD i 0 < 0
        · refine hk_draw mixed (by kernel_rfl) fun K hK => runs_eval tab_ok ?_
          simp only [ev0, evA, evB, evP, fl, gp, tab, simprocAttr, reduceCtorEq, reduceIte, il_get hlt, decide_eq_true g9a]
          refine fin_run ?_ (hK _ ?_) <;> clear hK <;> clear K
          · (first | exact trivial | omega | (simp only [In64] at *; omega) | (simp [In64] at *; omega) | (simp_all; done) | skip)
          refine qa ?_
          refine hk_cond rfl (fun hC4 => ?_) (fun hC4 => ?_)
          · refine qm ?_
            refine hk_region fun K hK => runs_eval tab_ok ?_
            simp only [ev0, evA, evB, evP, fl, gp, tab, simprocAttr, reduceCtorEq, reduceIte]
            refine fin_stop trivial (runs_call (f_c 3 i) rfl rfl rfl (by simp only [dstOk, Nat.reduceLT]) (by repeat (first | exact trivial | constructor)) (runs_eval tab_ok ?_))
            simp only [ev0, evA, evB, evP, fl, gp, tab, simprocAttr, reduceCtorEq, reduceIte]
            refine fin_run ?_ (hK _ ?_) <;> clear hK <;> clear K
            · (first | exact trivial | omega | (simp only [In64] at *; omega) | (simp [In64] at *; omega) | (simp_all; done) | skip)
            refine qa (qk (qe (qb (qb (qe (qb ?_))))))
            simp only [Tryd.results41, enA, ev0, evA, evB, evP, fl, gp, tab, simprocAttr, reduceCtorEq, reduceIte]
            all_goals (rw [homf_3 hC1 hC2 hlt (decide_eq_true (.inl g9a)) hi2]; simp)
          · cases hC4
        · refine hk_draw mixed (by kernel_rfl) fun K hK => runs_eval tab_ok ?_
          simp only [ev0, evA, evB, evP, fl, gp, tab, simprocAttr, reduceCtorEq, reduceIte, il_get hlt, decide_eq_false g9a]
          refine fin_run ?_ (hK _ ?_) <;> clear hK <;> clear K
          · (first | exact trivial | omega | (simp only [In64] at *; omega) | (simp [In64] at *; omega) | (simp_all; done) | skip)
          refine qa ?_
          refine hk_cond rfl (fun hC4 => ?_) (fun hC4 => ?_)
          · (try simp only [nhs] at hC4)
            refine qm ?_
            refine hk_region fun K hK => runs_eval tab_ok ?_
            simp only [ev0, evA, evB, evP, fl, gp, tab, simprocAttr, reduceCtorEq, reduceIte]
            refine fin_stop trivial (runs_call (f_c 3 i) rfl rfl rfl (by simp only [dstOk, Nat.reduceLT]) (by repeat (first | exact trivial | constructor)) (runs_eval tab_ok ?_))
            simp only [ev0, evA, evB, evP, fl, gp, tab, simprocAttr, reduceCtorEq, reduceIte]
            refine fin_run ?_ (hK _ ?_) <;> clear hK <;> clear K
            · (first | exact trivial | omega | (simp only [In64] at *; omega) | (simp [In64] at *; omega) | (simp_all; done) | skip)
            refine qa (qk (qe (qb (qb (qe (qb ?_))))))
            simp only [Tryd.results41, enA, ev0, evA, evB, evP, fl, gp, tab, simprocAttr, reduceCtorEq, reduceIte]
            all_goals (rw [homf_3 hC1 hC2 hlt (decide_eq_true (.inr hC4)) hi2]; simp)
          · (try simp only [nhs] at hC4)
            refine qh (qd (qa ?_))
            refine hk_region fun K hK => runs_eval tab_ok ?_
            simp only [ev0, evA, evB, evP, fl, gp, tab, simprocAttr, reduceCtorEq, reduceIte]
            refine fin_run ?_ (hK _ ?_) <;> clear hK <;> clear K
            · (first | exact trivial | omega | (simp only [In64] at *; omega) | (simp [In64] at *; omega) | (simp_all; done) | skip)
            refine qa ?_
            refine ⟨i + 1, [0, 1, 2], ⟨by omega, fun j hj => ?_⟩, by omega, ?_⟩
            · by_cases hj : j = i
              · subst hj; exact decide_eq_false (by omega)
              · exact hi2 j (by omega)
            · simp only [leq, leA, ev0, evA, evB, evP, fl, gp, tab, simprocAttr, reduceCtorEq, reduceIte] <;> omega
      · (try simp only [nhs] at hC3)
        have hall : ∀ j, j < l.length → bad n' l j = false := fun j hj => hi2 j (by omega)
        have hvv : ∀ a, a < n → l.getD a 0 = ((hv l a : Nat) : Int) ∧ hv l a < n' := fun a ha => hv_at (hall a (by omega))
        refine qj (qc (qc (qf (qa (qm (qm ?_))))))
        refine hk_region fun K hK => runs_eval tab_ok ?_
        simp only [ev0, evA, evB, evP, fl, gp, tab, simprocAttr, reduceCtorEq, reduceIte]
        refine fin_run trivial (hK _ ?_) <;> clear hK <;> clear K
        refine qa (ql ?_)
        refine hk_loop (ι := Nat) (fun a => ⟨79, [(2, .p (.list (il l))), (3, .ptr 0 0), (4, .ptr 1 0), (6, .ptr 2 0), (9, .p (.int .i64 a))], [.own [.p (.int .i64 n), .p (.list (il m))], .own [.p (.int .i64 n'), .p (.list (il m'))], .own [.p (.int .i64 0), .p (.int .i64 0)]]⟩) (fun a => a ≤ n ∧ ∀ j, j < a → hgood m m' l n n' j) (fun a => n - a) 0 ⟨Nat.zero_le _, fun j hj => by omega⟩ [0, 1, 2] (by simp only [leq, leA, ev0, evA, evB, evP, fl, gp, tab, simprocAttr, reduceCtorEq, reduceIte] <;> trivial) fun a ha => ?_
        obtain ⟨ha1, ha2⟩ := ha
        refine qm (qm ?_)
        refine hk_region fun K hK => runs_eval tab_ok ?_
        simp only [ev0, evA, evB, evP, fl, gp, tab, simprocAttr, reduceCtorEq, reduceIte]
        refine fin_run ?_ (hK _ ?_) <;> clear hK <;> clear K
        · (first | exact trivial | omega | (simp only [In64] at *; omega) | (simp [In64] at *; omega) | (simp_all; done) | skip)
        refine qa ?_
        refine hk_cond rfl (fun hC5 => ?_) (fun hC5 => ?_)
        · (try simp only [nhs] at hC5)
          have hal : a < n := by omega
          refine qh (qa (qm (ql (qm ?_))))
          refine hk_region fun K hK => runs_eval tab_ok ?_
          simp only [ev0, evA, evB, evP, fl, gp, tab, simprocAttr, reduceCtorEq, reduceIte]
          refine fin_run trivial (hK _ ?_) <;> clear hK <;> clear K
          refine qa (ql ?_)
          refine hk_loop (ι := Nat) (fun b => ⟨79, [(2, .p (.list (il l))), (3, .ptr 0 0), (4, .ptr 1 0), (6, .ptr 2 0), (9, .p (.int .i64 a)), (10, .p (.int .i64 b))], [.own [.p (.int .i64 n), .p (.list (il m))], .own [.p (.int .i64 n'), .p (.list (il m'))], .own [.p (.int .i64 0), .p (.int .i64 0)]]⟩) (fun b => b ≤ n ∧ ∀ j, j < b → op m' n' (hv l a) (hv l j) = hv l (op m n a j)) (fun b => n - b) 0 ⟨Nat.zero_le _, fun j hj => by omega⟩ [0, 1, 2] (by simp only [leq, leA, ev0, evA, evB, evP, fl, gp, tab, simprocAttr, reduceCtorEq, reduceIte] <;> trivial) fun b hb => ?_
          obtain ⟨hb1, hb2⟩ := hb
          refine qm (qm ?_)
          refine hk_region fun K hK => runs_eval tab_ok ?_
          simp only [ev0, evA, evB, evP, fl, gp, tab, simprocAttr, reduceCtorEq, reduceIte]
          refine fin_run ?_ (hK _ ?_) <;> clear hK <;> clear K
          · (first | exact trivial | omega | (simp only [In64] at *; omega) | (simp [In64] at *; omega) | (simp_all; done) | skip)
          refine qa ?_
          refine hk_cond rfl (fun hC6 => ?_) (fun hC6 => ?_)
          · (try simp only [nhs] at hC6)
            have hbl : b < n := by omega
            have hab := T.lt hal hbl
            obtain ⟨ea, la⟩ := hvv a hal
            obtain ⟨eb, lb⟩ := hvv b hbl
            obtain ⟨ec, lc⟩ := hvv _ hab
            refine qh (qa (qm (ql (qm ?_))))
            refine hk_draw mixed (by kernel_rfl) fun K hK => runs_eval tab_ok ?_
            simp only [ev0, evA, evB, evP, fl, gp, tab, simprocAttr, reduceCtorEq, reduceIte, il_get (show a < l.length by omega), il_get (show b < l.length by omega), il_get (show op m n a b < l.length by omega), ea, eb, ec]
            refine fin_stop ?_ (runs_call (m_c T' la lb) rfl rfl rfl (by simp only [dstOk, Nat.reduceLT]) (by repeat (first | exact trivial | constructor)) (runs_eval tab_ok ?_))
            · (first | exact trivial | omega | (simp only [In64] at *; omega) | (simp [In64] at *; omega) | (simp_all; done) | skip)
            simp only [ev0, evA, evB, evP, fl, gp, tab, simprocAttr, reduceCtorEq, reduceIte, il_get (show a < l.length by omega), il_get (show b < l.length by omega), il_get (show op m n a b < l.length by omega), ea, eb, ec]
            refine fin_stop trivial (runs_call (m_c T hal hbl) rfl rfl rfl (by simp only [dstOk, Nat.reduceLT]) (by repeat (first | exact trivial | constructor)) (runs_eval tab_ok ?_))
            simp only [ev0, evA, evB, evP, fl, gp, tab, simprocAttr, reduceCtorEq, reduceIte, il_get (show a < l.length by omega), il_get (show b < l.length by omega), il_get (show op m n a b < l.length by omega), ea, eb, ec]
            refine fin_run ?_ (hK _ ?_) <;> clear hK <;> clear K
            · (first | exact trivial | omega | (simp only [In64] at *; omega) | (simp [In64] at *; omega) | (simp_all; done) | skip)
            refine qa ?_
            refine hk_cond rfl (fun hC7 => ?_) (fun hC7 => ?_)
            · (try simp only [nhs] at hC7)
              refine qm ?_
              refine hk_region fun K hK => runs_eval tab_ok ?_
              simp only [ev0, evA, evB, evP, fl, gp, tab, simprocAttr, reduceCtorEq, reduceIte]
              refine fin_stop trivial (runs_call (f_c 7 a) rfl rfl rfl (by simp only [dstOk, Nat.reduceLT]) (by repeat (first | exact trivial | constructor)) (runs_eval tab_ok ?_))
              simp only [ev0, evA, evB, evP, fl, gp, tab, simprocAttr, reduceCtorEq, reduceIte]
              refine fin_run ?_ (hK _ ?_) <;> clear hK <;> clear K
              · (first | exact trivial | omega | (simp only [In64] at *; omega) | (simp [In64] at *; omega) | (simp_all; done) | skip)
              refine qa (qk (qe (qb (qb (qe (qe (qb (qb (qe (qb ?_))))))))))
              simp only [Tryd.results41, enA, ev0, evA, evB, evP, fl, gp, tab, simprocAttr, reduceCtorEq, reduceIte]
              all_goals (rw [homf_2 hC1 hC2 hall, homf2_7 hal (fun h => hC7 (by rw [h b hbl])) ha2]; simp)
            · (try simp only [nhs] at hC7)
              refine qh (qd (qa ?_))
              refine hk_region fun K hK => runs_eval tab_ok ?_
              simp only [ev0, evA, evB, evP, fl, gp, tab, simprocAttr, reduceCtorEq, reduceIte]
              refine fin_run ?_ (hK _ ?_) <;> clear hK <;> clear K
              · (first | exact trivial | omega | (simp only [In64] at *; omega) | (simp [In64] at *; omega) | (simp_all; done) | skip)
              refine qa ?_
              refine ⟨b + 1, [0, 1, 2], ⟨by omega, fun j hj => ?_⟩, by omega, ?_⟩
              · by_cases hj : j = b
                · subst hj; omega
                · exact hb2 j (by omega)
              · simp only [leq, leA, ev0, evA, evB, evP, fl, gp, tab, simprocAttr, reduceCtorEq, reduceIte] <;> omega
          · (try simp only [nhs] at hC6)
            refine qj (qc (qc (qf (qd (qa ?_)))))
            refine hk_region fun K hK => runs_eval tab_ok ?_
            simp only [ev0, evA, evB, evP, fl, gp, tab, simprocAttr, reduceCtorEq, reduceIte]
            refine fin_run ?_ (hK _ ?_) <;> clear hK <;> clear K
            · (first | exact trivial | omega | (simp only [In64] at *; omega) | (simp [In64] at *; omega) | (simp_all; done) | skip)
            refine qa ?_
            refine ⟨a + 1, [0, 1, 2], ⟨by omega, fun j hj => ?_⟩, by omega, ?_⟩
            · by_cases hj : j = a
              · subst hj; exact fun c' hc' => hb2 c' (by omega)
              · exact ha2 j (by omega)
            · simp only [leq, leA, ev0, evA, evB, evP, fl, gp, tab, simprocAttr, reduceCtorEq, reduceIte] <;> omega
        · (try simp only [nhs] at hC5)
          refine qj (qc (qc (qf (qa (qm ?_)))))
          refine hk_region fun K hK => runs_eval tab_ok ?_
          simp only [ev0, evA, evB, evP, fl, gp, tab, simprocAttr, reduceCtorEq, reduceIte]
          refine fin_run ?_ (hK _ ?_) <;> clear hK <;> clear K
          · (first | exact trivial | omega | (simp only [In64] at *; omega) | (simp [In64] at *; omega) | (simp_all; done) | skip)
          refine qa (qk ?_)
          simp only [Tryd.results41, enA, ev0, evA, evB, evP, fl, gp, tab, simprocAttr, reduceCtorEq, reduceIte]
          all_goals (rw [homf_2 hC1 hC2 hall, homf2_0 (fun j hj => ha2 j (by omega))]; simp)

set_option maxHeartbeats 2000000 in
theorem homCheck_c (N : Int) (m : List Int) (N' : Int) (m' l : List Int) (hm : m.length ≤ 1000000000000000) (hm' : m'.length ≤ 1000000000000000) : FnC Tryd.prog 40 [gp N m, gp N' m', .list (il l)] (fl (homf N m N' m' l)) := by
  refine fnc_of tab_ok Tryd.func40 rfl (by kernel_rfl) (by rw [Tryd.ntmps40]; exact Nat.le_add_left 3 _) ?_; rw [Tryd.ntmps40]
  refine qm ?_
  refine hk_region fun K hK => runs_eval tab_ok ?_
  simp only [ev0, evA, evB, evP, fl, gp, tab, simprocAttr, reduceCtorEq, reduceIte]
  refine fin_run ?_ (hK _ ?_) <;> clear hK <;> clear K
  · (first | exact trivial | omega | (simp only [In64] at *; omega) | (simp [In64] at *; omega) | (simp_all; done) | skip)
  refine qa (qm (qm ?_))
  refine hk_region fun K hK => runs_eval tab_ok ?_
  simp only [ev0, evA, evB, evP, fl, gp, tab, simprocAttr, reduceCtorEq, reduceIte]
  refine fin_stop trivial (runs_call (homBoth_c N m N' m' hm hm') rfl rfl rfl (by simp only [dstOk, Nat.reduceLT]) (by repeat (first | exact trivial | constructor)) (runs_eval tab_ok ?_))
  simp only [ev0, evA, evB, evP, fl, gp, tab, simprocAttr, reduceCtorEq, reduceIte]
  refine fin_run ?_ (hK _ ?_) <;> clear hK <;> clear K
  · (first | exact trivial | omega | (simp only [In64] at *; omega) | (simp [In64] at *; omega) | (simp_all; done) | skip)
  refine qa (qm ?_)
  refine hk_region fun K hK => runs_eval tab_ok ?_
  simp only [ev0, evA, evB, evP, fl, gp, tab, simprocAttr, reduceCtorEq, reduceIte]
  refine fin_run ?_ (hK _ ?_) <;> clear hK <;> clear K
  · (first | exact trivial | omega | (simp only [In64] at *; omega) | (simp [In64] at *; omega) | (simp_all; done) | skip)
  refine qa ?_
  refine hk_cond rfl (fun hC1 => ?_) (fun hC1 => ?_)
  · (try simp only [nhs] at hC1)
    refine qm ?_
    refine hk_region fun K hK => runs_eval tab_ok ?_
    simp only [ev0, evA, evB, evP, fl, gp, tab, simprocAttr, reduceCtorEq, reduceIte]
    refine fin_run ?_ (hK _ ?_) <;> clear hK <;> clear K
    · (first | exact trivial | omega | (simp only [In64] at *; omega) | (simp [In64] at *; omega) | (simp_all; done) | skip)
    refine qa (qk (qb ?_))
    simp only [Tryd.results40, enA, ev0, evA, evB, evP, fl, gp, tab, simprocAttr, reduceCtorEq, reduceIte]
    all_goals (rw [homf_tg hC1]; simp)
  · (try simp only [nhs] at hC1)
    obtain ⟨z1, z2⟩ := tg_zero hC1
    obtain ⟨n, e, g, _⟩ := gf_ok z1
    obtain ⟨n', e', g', _⟩ := gf_ok z2
    obtain rfl := g.1
    obtain rfl := g'.1
    have T := g.2.1
    have T' := g'.2.1
    have hb := T.big
    refine qh (qa (qm (qm ?_)))
    refine hk_region fun K hK => runs_eval tab_ok ?_
    simp only [ev0, evA, evB, evP, fl, gp, tab, simprocAttr, reduceCtorEq, reduceIte]
    refine fin_run ?_ (hK _ ?_) <;> clear hK <;> clear K
    · (first | exact trivial | omega | (simp only [In64] at *; omega) | (simp [In64] at *; omega) | (simp_all; done) | skip)
    refine qa ?_
    refine hk_cond rfl (fun hC2 => ?_) (fun hC2 => ?_)
    · (try simp only [nhs] at hC2)
      refine qm ?_
      refine hk_region fun K hK => runs_eval tab_ok ?_
      simp only [ev0, evA, evB, evP, fl, gp, tab, simprocAttr, reduceCtorEq, reduceIte]
      refine fin_stop trivial (runs_call (homFlt_c 8 0) rfl rfl rfl (by simp only [dstOk, Nat.reduceLT]) (by repeat (first | exact trivial | constructor)) (runs_eval tab_ok ?_))
      simp only [ev0, evA, evB, evP, fl, gp, tab, simprocAttr, reduceCtorEq, reduceIte]
      refine fin_run ?_ (hK _ ?_) <;> clear hK <;> clear K
      · (first | exact trivial | omega | (simp only [In64] at *; omega) | (simp [In64] at *; omega) | (simp_all; done) | skip)
      refine qa (qk (qb ?_))
      simp only [Tryd.results40, enA, ev0, evA, evB, evP, fl, gp, tab, simprocAttr, reduceCtorEq, reduceIte]
      all_goals (rw [homf_8 hC1 hC2]; simp)
    · (try simp only [nhs] at hC2)
      refine qh (qa (qm (qm ?_)))
      refine hk_region fun K hK => runs_eval tab_ok ?_
      simp only [ev0, evA, evB, evP, fl, gp, tab, simprocAttr, reduceCtorEq, reduceIte]
      refine fin_run trivial (hK _ ?_) <;> clear hK <;> clear K
      refine qa (ql ?_)
      refine hk_loop (ι := Nat) (fun i => ⟨76, [(2, .p (.list (il l))), (3, .ptr 0 0), (4, .ptr 1 0), (6, .ptr 2 0), (25, .p (.list (il l))), (26, .p (.int .i64 l.length)), (27, .p (.int .i64 i))], [.own [.p (.int .i64 n), .p (.list (il m))], .own [.p (.int .i64 n'), .p (.list (il m'))], .own [.p (.int .i64 0), .p (.int .i64 0)]]⟩) (fun i => i ≤ l.length ∧ ∀ j, j < i → bad n' l j = false) (fun i => l.length - i) 0 ⟨Nat.zero_le _, fun j hj => by omega⟩ [0, 1, 2] (by simp only [leq, leA, ev0, evA, evB, evP, fl, gp, tab, simprocAttr, reduceCtorEq, reduceIte] <;> trivial) fun i hi => ?_
      obtain ⟨hi1, hi2⟩ := hi
      refine qm ?_
      refine hk_region fun K hK => runs_eval tab_ok ?_
      simp only [ev0, evA, evB, evP, fl, gp, tab, simprocAttr, reduceCtorEq, reduceIte]
      refine fin_run trivial (hK _ ?_) <;> clear hK <;> clear K
      refine qa (qm ?_)
      refine hk_cond rfl (fun hC3 => ?_) (fun hC3 => ?_)
      · (try simp only [nhs] at hC3)
        have hlt : i < l.length := by omega
        refine qh (qa (qm (ql (qm ?_))))
        refine hk_region fun K hK => runs_eval tab_ok ?_
        simp only [ev0, evA, evB, evP, fl, gp, tab, simprocAttr, reduceCtorEq, reduceIte, il_get hlt]
        refine fin_run ?_ (hK _ ?_) <;> clear hK <;> clear K
        · (first | exact trivial | omega | (simp only [In64] at *; omega) | (simp [In64] at *; omega) | (simp_all; done) | skip)
        refine qa (qm ?_)
        by_cases g9a : l.getD i 0 < 0
        · refine hk_region fun K hK => runs_eval tab_ok ?_
          simp only [ev0, evA, evB, evP, fl, gp, tab, simprocAttr, reduceCtorEq, reduceIte, decide_eq_true g9a]
          refine fin_run trivial (hK _ ?_) <;> clear hK <;> clear K
          refine qa ?_
          refine hk_cond rfl (fun hC4 => ?_) (fun hC4 => ?_)
          · refine qm ?_
            refine hk_region fun K hK => runs_eval tab_ok ?_
            simp only [ev0, evA, evB, evP, fl, gp, tab, simprocAttr, reduceCtorEq, reduceIte]
            refine fin_stop trivial (runs_call (homFlt_c 3 i) rfl rfl rfl (by simp only [dstOk, Nat.reduceLT]) (by repeat (first | exact trivial | constructor)) (runs_eval tab_ok ?_))
            simp only [ev0, evA, evB, evP, fl, gp, tab, simprocAttr, reduceCtorEq, reduceIte]
            refine fin_run ?_ (hK _ ?_) <;> clear hK <;> clear K
            · (first | exact trivial | omega | (simp only [In64] at *; omega) | (simp [In64] at *; omega) | (simp_all; done) | skip)
            refine qa (qk (qe (qb (qb (qe (qb ?_))))))
            simp only [Tryd.results40, enA, ev0, evA, evB, evP, fl, gp, tab, simprocAttr, reduceCtorEq, reduceIte]
            all_goals (rw [homf_3 hC1 hC2 hlt (decide_eq_true (.inl g9a)) hi2]; simp)
          · cases hC4
        · refine hk_region fun K hK => runs_eval tab_ok ?_
          simp only [ev0, evA, evB, evP, fl, gp, tab, simprocAttr, reduceCtorEq, reduceIte, decide_eq_false g9a]
          refine fin_run ?_ (hK _ ?_) <;> clear hK <;> clear K
          · (first | exact trivial | omega | (simp only [In64] at *; omega) | (simp [In64] at *; omega) | (simp_all; done) | skip)
          refine qa ?_
          refine hk_cond rfl (fun hC4 => ?_) (fun hC4 => ?_)
          · (try simp only [nhs] at hC4)
            refine qm ?_
            refine hk_region fun K hK => runs_eval tab_ok ?_
            simp only [ev0, evA, evB, evP, fl, gp, tab, simprocAttr, reduceCtorEq, reduceIte]
            refine fin_stop trivial (runs_call (homFlt_c 3 i) rfl rfl rfl (by simp only [dstOk, Nat.reduceLT]) (by repeat (first | exact trivial | constructor)) (runs_eval tab_ok ?_))
            simp only [ev0, evA, evB, evP, fl, gp, tab, simprocAttr, reduceCtorEq, reduceIte]
            refine fin_run ?_ (hK _ ?_) <;> clear hK <;> clear K
            · (first | exact trivial | omega | (simp only [In64] at *; omega) | (simp [In64] at *; omega) | (simp_all; done) | skip)
            refine qa (qk (qe (qb (qb (qe (qb ?_))))))
            simp only [Tryd.results40, enA, ev0, evA, evB, evP, fl, gp, tab, simprocAttr, reduceCtorEq, reduceIte]
            all_goals (rw [homf_3 hC1 hC2 hlt (decide_eq_true (.inr hC4)) hi2]; simp)
          · (try simp only [nhs] at hC4)
            refine qh (qd (qa ?_))
            refine hk_region fun K hK => runs_eval tab_ok ?_
            simp only [ev0, evA, evB, evP, fl, gp, tab, simprocAttr, reduceCtorEq, reduceIte]
            refine fin_run ?_ (hK _ ?_) <;> clear hK <;> clear K
            · (first | exact trivial | omega | (simp only [In64] at *; omega) | (simp [In64] at *; omega) | (simp_all; done) | skip)
            refine qa ?_
            refine ⟨i + 1, [0, 1, 2], ⟨by omega, fun j hj => ?_⟩, by omega, ?_⟩
            · by_cases hj : j = i
              · subst hj; exact decide_eq_false (by omega)
              · exact hi2 j (by omega)
            · simp only [leq, leA, ev0, evA, evB, evP, fl, gp, tab, simprocAttr, reduceCtorEq, reduceIte] <;> omega
      · (try simp only [nhs] at hC3)
        have hall : ∀ j, j < l.length → bad n' l j = false := fun j hj => hi2 j (by omega)
        have hvv : ∀ a, a < n → l.getD a 0 = ((hv l a : Nat) : Int) ∧ hv l a < n' := fun a ha => hv_at (hall a (by omega))
        refine qj (qc (qc (qf (qa (qm (qm ?_))))))
        refine hk_region fun K hK => runs_eval tab_ok ?_
        simp only [ev0, evA, evB, evP, fl, gp, tab, simprocAttr, reduceCtorEq, reduceIte]
        refine fin_run ?_ (hK _ ?_) <;> clear hK <;> clear K
        · (first | exact trivial | omega | (simp only [In64] at *; omega) | (simp [In64] at *; omega) | (simp_all; done) | skip)
        refine qa (ql ?_)
        refine hk_loop (ι := Nat) (fun a => ⟨76, [(2, .p (.list (il l))), (3, .ptr 0 0), (4, .ptr 1 0), (6, .ptr 2 0), (44, .p (.int .i64 n)), (45, .p (.int .i64 a))], [.own [.p (.int .i64 n), .p (.list (il m))], .own [.p (.int .i64 n'), .p (.list (il m'))], .own [.p (.int .i64 0), .p (.int .i64 0)]]⟩) (fun a => a ≤ n ∧ ∀ j, j < a → hgood m m' l n n' j) (fun a => n - a) 0 ⟨Nat.zero_le _, fun j hj => by omega⟩ [0, 1, 2] (by simp only [leq, leA, ev0, evA, evB, evP, fl, gp, tab, simprocAttr, reduceCtorEq, reduceIte] <;> trivial) fun a ha => ?_
        obtain ⟨ha1, ha2⟩ := ha
        refine qm ?_
        refine hk_region fun K hK => runs_eval tab_ok ?_
        simp only [ev0, evA, evB, evP, fl, gp, tab, simprocAttr, reduceCtorEq, reduceIte]
        refine fin_run trivial (hK _ ?_) <;> clear hK <;> clear K
        refine qa (qm ?_)
        refine hk_cond rfl (fun hC5 => ?_) (fun hC5 => ?_)
        · (try simp only [nhs] at hC5)
          have hal : a < n := by omega
          refine qh (qa (qm (ql (qm ?_))))
          refine hk_region fun K hK => runs_eval tab_ok ?_
          simp only [ev0, evA, evB, evP, fl, gp, tab, simprocAttr, reduceCtorEq, reduceIte]
          refine fin_run trivial (hK _ ?_) <;> clear hK <;> clear K
          refine qa (qm ?_)
          refine hk_region fun K hK => runs_eval tab_ok ?_
          simp only [ev0, evA, evB, evP, fl, gp, tab, simprocAttr, reduceCtorEq, reduceIte]
          refine fin_run ?_ (hK _ ?_) <;> clear hK <;> clear K
          · (first | exact trivial | omega | (simp only [In64] at *; omega) | (simp [In64] at *; omega) | (simp_all; done) | skip)
          refine qa (ql ?_)
          refine hk_loop (ι := Nat) (fun b => ⟨76, [(2, .p (.list (il l))), (3, .ptr 0 0), (4, .ptr 1 0), (6, .ptr 2 0), (10, .p (.int .i64 a)), (44, .p (.int .i64 n)), (45, .p (.int .i64 a)), (49, .p (.int .i64 n)), (50, .p (.int .i64 b))], [.own [.p (.int .i64 n), .p (.list (il m))], .own [.p (.int .i64 n'), .p (.list (il m'))], .own [.p (.int .i64 0), .p (.int .i64 0)]]⟩) (fun b => b ≤ n ∧ ∀ j, j < b → op m' n' (hv l a) (hv l j) = hv l (op m n a j)) (fun b => n - b) 0 ⟨Nat.zero_le _, fun j hj => by omega⟩ [0, 1, 2] (by simp only [leq, leA, ev0, evA, evB, evP, fl, gp, tab, simprocAttr, reduceCtorEq, reduceIte] <;> trivial) fun b hb => ?_
          obtain ⟨hb1, hb2⟩ := hb
          refine qm ?_
          refine hk_region fun K hK => runs_eval tab_ok ?_
          simp only [ev0, evA, evB, evP, fl, gp, tab, simprocAttr, reduceCtorEq, reduceIte]
          refine fin_run trivial (hK _ ?_) <;> clear hK <;> clear K
          refine qa (qm ?_)
          refine hk_cond rfl (fun hC6 => ?_) (fun hC6 => ?_)
          · (try simp only [nhs] at hC6)
            have hbl : b < n := by omega
            have hab := T.lt hal hbl
            obtain ⟨ea, la⟩ := hvv a hal
            obtain ⟨eb, lb⟩ := hvv b hbl
            obtain ⟨ec, lc⟩ := hvv _ hab
            refine qh (qa (qm (ql (qm ?_))))
            refine hk_region fun K hK => runs_eval tab_ok ?_
            simp only [ev0, evA, evB, evP, fl, gp, tab, simprocAttr, reduceCtorEq, reduceIte]
            refine fin_run trivial (hK _ ?_) <;> clear hK <;> clear K
            refine qa (qm ?_)
            refine hk_draw mixed (by kernel_rfl) fun K hK => runs_eval tab_ok ?_
            simp only [ev0, evA, evB, evP, fl, gp, tab, simprocAttr, reduceCtorEq, reduceIte, il_get (show a < l.length by omega), il_get (show b < l.length by omega), il_get (show op m n a b < l.length by omega), ea, eb, ec]
            refine fin_stop trivial (runs_call (of_c T hal hbl) rfl rfl rfl (by simp only [dstOk, Nat.reduceLT]) (by repeat (first | exact trivial | constructor)) (runs_eval tab_ok ?_))
            simp only [ev0, evA, evB, evP, fl, gp, tab, simprocAttr, reduceCtorEq, reduceIte, il_get (show a < l.length by omega), il_get (show b < l.length by omega), il_get (show op m n a b < l.length by omega), ea, eb, ec]
            refine fin_stop ?_ (runs_call (of_c T' la lb) rfl rfl rfl (by simp only [dstOk, Nat.reduceLT]) (by repeat (first | exact trivial | constructor)) (runs_eval tab_ok ?_))
            · (first | exact trivial | omega | (simp only [In64] at *; omega) | (simp [In64] at *; omega) | (simp_all; done) | skip)
            simp only [ev0, evA, evB, evP, fl, gp, tab, simprocAttr, reduceCtorEq, reduceIte, il_get (show a < l.length by omega), il_get (show b < l.length by omega), il_get (show op m n a b < l.length by omega), ea, eb, ec]
            refine fin_run ?_ (hK _ ?_) <;> clear hK <;> clear K
            · (first | exact trivial | omega | (simp only [In64] at *; omega) | (simp [In64] at *; omega) | (simp_all; done) | skip)
            refine qa ?_
            refine hk_cond rfl (fun hC7 => ?_) (fun hC7 => ?_)
            · (try simp only [nhs] at hC7)
              refine qm ?_
              refine hk_region fun K hK => runs_eval tab_ok ?_
              simp only [ev0, evA, evB, evP, fl, gp, tab, simprocAttr, reduceCtorEq, reduceIte]
              refine fin_stop trivial (runs_call (homFlt_c 7 a) rfl rfl rfl (by simp only [dstOk, Nat.reduceLT]) (by repeat (first | exact trivial | constructor)) (runs_eval tab_ok ?_))
              simp only [ev0, evA, evB, evP, fl, gp, tab, simprocAttr, reduceCtorEq, reduceIte]
              refine fin_run ?_ (hK _ ?_) <;> clear hK <;> clear K
              · (first | exact trivial | omega | (simp only [In64] at *; omega) | (simp [In64] at *; omega) | (simp_all; done) | skip)
              refine qa (qk (qe (qb (qb (qe (qe (qb (qb (qe (qb ?_))))))))))
              simp only [Tryd.results40, enA, ev0, evA, evB, evP, fl, gp, tab, simprocAttr, reduceCtorEq, reduceIte]
              all_goals (rw [homf_2 hC1 hC2 hall, homf2_7 hal (fun h => hC7 (by rw [h b hbl])) ha2]; simp)
            · (try simp only [nhs] at hC7)
              refine qh (qd (qa ?_))
              refine hk_region fun K hK => runs_eval tab_ok ?_
              simp only [ev0, evA, evB, evP, fl, gp, tab, simprocAttr, reduceCtorEq, reduceIte]
              refine fin_run ?_ (hK _ ?_) <;> clear hK <;> clear K
              · (first | exact trivial | omega | (simp only [In64] at *; omega) | (simp [In64] at *; omega) | (simp_all; done) | skip)
              refine qa ?_
              refine ⟨b + 1, [0, 1, 2], ⟨by omega, fun j hj => ?_⟩, by omega, ?_⟩
              · by_cases hj : j = b
                · subst hj; omega
                · exact hb2 j (by omega)
              · simp only [leq, leA, ev0, evA, evB, evP, fl, gp, tab, simprocAttr, reduceCtorEq, reduceIte] <;> omega
          · (try simp only [nhs] at hC6)
            refine qj (qc (qc (qf (qd (qa ?_)))))
            refine hk_region fun K hK => runs_eval tab_ok ?_
            simp only [ev0, evA, evB, evP, fl, gp, tab, simprocAttr, reduceCtorEq, reduceIte]
            refine fin_run ?_ (hK _ ?_) <;> clear hK <;> clear K
            · (first | exact trivial | omega | (simp only [In64] at *; omega) | (simp [In64] at *; omega) | (simp_all; done) | skip)
            refine qa ?_
            refine ⟨a + 1, [0, 1, 2], ⟨by omega, fun j hj => ?_⟩, by omega, ?_⟩
            · by_cases hj : j = a
              · subst hj; exact fun c' hc' => hb2 c' (by omega)
              · exact ha2 j (by omega)
            · simp only [leq, leA, ev0, evA, evB, evP, fl, gp, tab, simprocAttr, reduceCtorEq, reduceIte] <;> omega
        · (try simp only [nhs] at hC5)
          refine qj (qc (qc (qf (qa (qm ?_)))))
          refine hk_region fun K hK => runs_eval tab_ok ?_
          simp only [ev0, evA, evB, evP, fl, gp, tab, simprocAttr, reduceCtorEq, reduceIte]
          refine fin_run ?_ (hK _ ?_) <;> clear hK <;> clear K
          · (first | exact trivial | omega | (simp only [In64] at *; omega) | (simp [In64] at *; omega) | (simp_all; done) | skip)
          refine qa (qk ?_)
          simp only [Tryd.results40, enA, ev0, evA, evB, evP, fl, gp, tab, simprocAttr, reduceCtorEq, reduceIte]
          all_goals (rw [homf_2 hC1 hC2 hall, homf2_0 (fun j hj => ha2 j (by omega))]; simp)
end Go.Proofs.YtjbfkdaodfdpcaaDoor

/-
  Walks: what makes a group, one by one; a map of some things, spread to all. Conditions: none.
-/
set_option linter.all false
namespace Go.Proofs.YtjbfkdaodfdpcaaDoor
open Go.Pv

def nl (L : List Nat) : List Int := L.map fun x => ((x : Nat) : Int)
section
variable (n : Nat) (f : Nat → Nat → Nat) (e : Nat)
/-- The least things that make a group, one by one. -/
noncomputable def gl : Nat → List Nat
  | 0 => []
  | a + 1 => if gn n f e (fun x => decide (x ∈ gl a)) a then gl a else gl a ++ [a]
end

section
variable {n e : Nat} {m : List Int}
end
end Go.Proofs.YtjbfkdaodfdpcaaDoor

/-
  Loops over a function: rounds as values, the statement, who calls yield. Conditions: none; a library text.
-/
set_option linter.all false
namespace Go.Pv
open Go.RowKit

section
variable {P : Program} {T : TypeId → Option TI} {C : Ctx} {m : Map} {s : St} {tmps : Array Value} {w : World}

/-! ### Contracts where the first q blocks stay -/

def FnQ (P : Program) (q : Nat) (f : FuncId) (args : List AV) (H0 : Heap) (r : AV) (H1 : Heap) : Prop :=
  Fun P f ∧ ∀ (C : Ctx) (m : Map) (w : World) (vals : Array Value), Rel C m ⟨args.length, entA 0 args, H0 ++ ancs 0 q⟩ vals w →
    Calls P f vals w fun e w' => ∃ v m', e = .returned v ∧ Rel C m' ⟨1, [(0, r)], H1 ++ ancs 0 q⟩ #[v] w'

/-- Who is called: with what it has captured. -/
def clA : AV → Option (FuncId × List AV)
  | .cl g l => some (g, l)
  | .p (.fn g l) => some (g, l.map .p)
  | _ => none

/-! ### Who calls yield -/

/-- THE CONTRACT OF A ROUND. -/
def YldQ (P : Program) (q κ : Nat) (rec : Loop) (l : List AV) (x : PV) (H0 : Heap) (r : AV) (H1 : Heap) : Prop :=
  ∀ (C : Ctx) (m : Map) (w : World) (fv v : Value) (g : Nat), Rel C m ⟨2, [(0, .yv κ l rec.tmps), (1, .p x)], H0 ++ ancs 0 q⟩ #[fv, v] w → fv = .func (.yield g) #[] #[] → w.heap[g]? = some (.loop rec) →
    RoundIn Fence.wide 0 P g rec.fn ((rec.params.zip #[v]).foldl (fun tmps (t, a) => tmps.setIfInBounds t a) rec.tmps) rec.assign rec.body w fun e w' => ∃ v' m', e = .returned v' ∧ Rel C m' ⟨1, [(0, r)], H1 ++ ancs 0 q⟩ #[v'] w'

end
end Go.Pv

/-
  Walks: a map of some things, spread to all. Conditions: none.
-/
set_option linter.all false
namespace Go.Proofs.YtjbfkdaodfdpcaaDoor
open Go.Pv

section
variable {n e N d : Nat} {m M : List Int}

end
end Go.Proofs.YtjbfkdaodfdpcaaDoor

/-
  Loops over a function: a round out of its body's walk; the statement. Conditions: none; a library text.
-/
set_option linter.all false
namespace Go.Pv
open Go.RowKit

section
variable {P : Program} {T : TypeId → Option TI} {C : Ctx} {m : Map} {s : St} {tmps : Array Value} {w : World}

/-- What is known of a frame, slot by slot. -/
def envA (n : Nat) (sl : List (Nat × AV)) : List AV := (List.range n).map (lk sl)
def keysLt (n : Nat) (sl : List (Nat × AV)) : Bool := sl.all fun e => decide (e.1 < n)
/-- A hole for a loop's record. -/
structure HoleQ (κ : Nat) (Hf : Blk → Heap) : Prop where
  at_ : ∀ b, (Hf b)[κ]? = some b
  set_ : ∀ b b', hset (Hf b) κ b' = Hf b'

theorem HoleQ.lt {κ : Nat} {Hf : Blk → Heap} (h : HoleQ κ Hf) (b : Blk) : κ < (Hf b).length := (List.getElem?_eq_some_iff.1 (h.at_ b)).1
/-- The record behind a round. -/
def recB (b : Bool) (rec : Loop) : Loop := if b then rec else { rec with state := .done, pending := some .ret }

structure RecOk (rec : Loop) (n pp : Nat) (assign body : Code) : Prop where
  params : rec.params = #[pp]
  assign : rec.assign = assign
  body : rec.body = body
  state : rec.state = .ready
  pending : rec.pending = none
  size : rec.tmps.size = n

/-! ### Code with a loop over a function -/

/-- The marks among the deferred calls. -/
def Dfr (C0 C : Ctx) (ds : List Deferred) : Prop := ds.Nodup ∧ ∀ d ∈ ds, ∃ D, d = { target := .collected D, args := #[] } ∧ C0.B D ∧ ¬ C.B D ∧ C.w0.heap[D]? = some (.deferred (some []))

def SubX (C C0 : Ctx) : Prop := ∀ m s tmps w, Rel C m s tmps w → Rel C0 m s tmps w

def HoldsR (P : Program) (c : Code) (Q : Exit → St → Prop) (s : St) : Prop :=
  ∀ C0 C m (a : Act) w, SubX C C0 → Rel C m s a.tmps w → Dfr C0 C a.defers → wpR none P c (fun e a' w' => ∃ C' s' m', SubX C' C0 ∧ Q e s' ∧ Rel C' m' s' a'.tmps w' ∧ Dfr C0 C' a'.defers) a w

variable {Q : Exit → St → Prop}

def scH (H : Heap) : Bool := H.all fun | .own c => c.all (scA H.length) | .anc _ _ => false | _ => true
end
end Go.Pv

/-
  Calls that hand out fresh rows of plain values; functions with captured rows of the call's own. Conditions: none.
-/
set_option linter.all false
namespace Go.Pv
open Go.RowKit

section
variable {P : Program} {s : St}

/-- A contract whose result lies in memory that is new: whatever the arguments may be. -/
def FnF (P : Program) (f : FuncId) (args : List PV) (r : PV) : Prop :=
  Fun P f ∧ ∀ (okA : Nat → Prop) (w : World) (vals : Array Value), LaidW okA w → vals.size = args.length → (∀ i (h : i < args.length), Reads okA w args[i] (vals.getD i undef)) →
    Calls P f vals w fun e w' => ∃ v, e = .returned v ∧ Go.Pv.Below w.heap.size w w' ∧ Reads (fun b => w.heap.size ≤ b ∧ b < w'.heap.size) w' r v

/-- Plain data: no memory. -/
def PV.sc : PV → Bool
  | .int _ _ => true
  | .bool _ => true
  | .str _ => true
  | _ => false

end

end Go.Pv
namespace Go.Proofs.YtjbfkdaodfdpcaaDoor
open Go.Pv

end Go.Proofs.YtjbfkdaodfdpcaaDoor

/-
  Walks: all homomorphisms, handed out one by one. Conditions: none.
-/
set_option linter.all false
namespace Go.Pv
open Go.RowKit

/-- What a loop over a function does, round by round: what its blocks hold; whether it goes on; how it goes on. -/
structure Prot (σ : Type) where
  c4 : σ → PV
  c51 : σ → PV
  c52 : σ → PV
  R : σ → List PV
  go : σ → PV → Bool
  nx : σ → PV → σ
  ok : σ → Prop
  okx : PV → Prop
  ok_nx : ∀ i x, ok i → okx x → go i x = true → ok (nx i x)
  ones : ∀ i, ok i → (R i).all PV.one = true

variable {σ : Type}
def foldS (p : Prot σ) : σ → List PV → σ × Bool
  | i, [] => (i, true)
  | i, x :: xs => if p.go i x then foldS p (p.nx i x) xs else (p.nx i x, false)
/-- The blocks of who loops. -/
def HU (p : Prot σ) (i : σ) (b : Blk) : Heap := [.own [.p (p.c4 i)], .own [.p (p.c51 i), .p (p.c52 i)], .own [.sl 4 0 (p.R i).length], b, .own (opl (p.R i))]

/-- All rounds are as told. -/
def Rounds (P : Program) (p : Prot σ) (rec : Loop) (l : List AV) : Prop := ∀ i x, p.ok i → p.okx x → YldQ P 4 3 rec l x (HU p i (.lp rec)) (.p (.bool (p.go i x))) (HU p (p.nx i x) (.lp (recB (p.go i x) rec)))
end Go.Pv
namespace Go.Proofs.YtjbfkdaodfdpcaaDoor
open Go.Pv

section
variable {n e N d : Nat} {m M : List Int}
open Classical in
/-- Where things that make the group go so: the homomorphism, if there is one. -/
noncomputable def hlf (n : Nat) (f : Nat → Nat → Nat) (N : Nat) (g : Nat → Nat → Nat) (L T : List Nat) : List (List Int) := if h : ∃ φ, Ext n f N g L T φ then [tbm n (Classical.choose h)] else []
/-- All that come, where some places are chosen. -/
noncomputable def hsq (n : Nat) (f : Nat → Nat → Nat) (e N : Nat) (g : Nat → Nat → Nat) (d : Nat) (L : List Nat) : List Nat → List Nat → List (List Int)
  | [], t => hlf n f N g L t
  | x :: r, t => ((List.range N).filter fun y => decide (ord n f e x % ord N g d y = 0)).flatMap fun y => hsq n f e N g d L r (t ++ [y])
/-- Up to a place. -/
noncomputable def hsu (n : Nat) (f : Nat → Nat → Nat) (e N : Nat) (g : Nat → Nat → Nat) (d : Nat) (L r t : List Nat) (x y : Nat) : List (List Int) :=
  ((List.range y).filter fun y => decide (ord n f e x % ord N g d y = 0)).flatMap fun y => hsq n f e N g d L r (t ++ [y])
def pls (l : List (List Int)) : List PV := l.map fun w => .list (il w)
/-- A row that is filled so far. -/
def rwd (t : List Nat) (n : Nat) : List AV := opl (il (nl t)) ++ List.replicate (n - t.length) .dead
variable {σ : Type}
/-- The blocks of who searches. -/
def HN (p : Prot σ) (n : Nat) (m : List Int) (N : Nat) (M : List Int) (L : List Nat) (lN : List AV) (vs : Array Value) (t : List Nat) (i : σ) (b : Blk) : Heap :=
  [.own [.sl 7 0 L.length], .own [.yv 6 lN vs], .own [.cl 157 [.p (.ptr [.list (il (nl L))]), .p (.ptr [.int .i64 n, .list (il m)]), .p (.ptr [.int .i64 N, .list (il M)]), .ptr 0 0, .ptr 1 0, .ptr 2 0]],
   .own [.p (p.c4 i)], .own [.p (p.c51 i), .p (p.c52 i)], .own [.sl 8 0 (p.R i).length], b, .own (rwd t L.length), .own (opl (p.R i))]

def NextC (p : Prot σ) (n : Nat) (m : List Int) (e N : Nat) (M : List Int) (d : Nat) (L : List Nat) (rec : Loop) (lN : List AV) (r t : List Nat) (i : σ) : Prop :=
  FnQ Tryd.prog 8 157 [.p (.int .i64 t.length), .p (.ptr [.list (il (nl L))]), .p (.ptr [.int .i64 n, .list (il m)]), .p (.ptr [.int .i64 N, .list (il M)]), .ptr 0 0, .ptr 1 0, .ptr 2 0]
    (HN p n m N M L lN rec.tmps t i (.lp rec)) (.p (.bool (foldS p i (pls (hsq n (op m n) e N (op M N) d L r t))).2)) (HN p n m N M L lN rec.tmps t (foldS p i (pls (hsq n (op m n) e N (op M N) d L r t))).1 (.lp (recB (foldS p i (pls (hsq n (op m n) e N (op M N) d L r t))).2 rec)))

end
end Go.Proofs.YtjbfkdaodfdpcaaDoor

/-
  Walks: the search begun; loops over all homomorphisms. Conditions: none.
-/
set_option linter.all false
namespace Go.Pv
open Go.RowKit
end Go.Pv
namespace Go.Proofs.YtjbfkdaodfdpcaaDoor
open Go.Pv
section
variable {n e N d : Nat} {m M : List Int} {σ : Type}
end
end Go.Proofs.YtjbfkdaodfdpcaaDoor

/-
  Walks: all homomorphisms of two groups. Conditions: none.
-/
set_option linter.all false
namespace Go.Pv
open Go.RowKit
/-- A list of up to a thousand, and one more where there are too many. -/
def prA (f : PV → Bool) (ox : List Int → Prop) : Prot (List PV) where
  c4 _ := .nil
  c51 l := .int .i64 (if l.length ≤ 1000 then 0 else 9)
  c52 _ := .int .i64 0
  R l := l
  go l x := !f x || decide (l.length + 1 ≤ 1000)
  nx l x := if f x then l ++ [x] else l
  ok l := l.length ≤ 1000 ∧ l.all PV.one = true
  okx x := ∃ v, x = .list (il v) ∧ ox v
  ok_nx l x h hx hg := by
    by_cases hf : f x = true
    · rw [if_pos hf]
      simp [hf] at hg
      refine ⟨by simp; omega, ?_⟩
      rw [List.all_append, h.2]
      obtain ⟨v, rfl, _⟩ := hx
      rfl
    · rw [if_neg hf]; exact h
  ones l h := h.2
section
variable {P : Program} {Q : Exit → St → Prop} {s : St} {C : Ctx} {m : Map} {tmps : Array Value} {w : World}
end
end Go.Pv
namespace Go.Proofs.YtjbfkdaodfdpcaaDoor
open Go.Pv
section
variable {n e N d : Nat} {m M : List Int} {σ : Type}
theorem tg_ok (h : GT n m n e) (h' : GT N M N d) : tg n m N M = (0, 0) := by
  unfold tg
  rw [gf_of h, gf_of h']; rfl
end
end Go.Proofs.YtjbfkdaodfdpcaaDoor

/-
  Walks: lists of lists, one to one, one map then another. Conditions: none.
-/
set_option linter.all false
namespace Go.Proofs.YtjbfkdaodfdpcaaDoor
open Go.Pv

/-- A list of so many things has each of them. -/
def onto1 (l : List Int) (n : Nat) : Prop := (∀ i, i < n → ((i : Nat) : Int) ∈ l) ∧ l.length = n
instance (l : List Int) (n : Nat) : Decidable (onto1 l n) := by unfold onto1; infer_instance

/-- One map, then another. -/
def cmpl (p q : List Int) : List Int := p.map fun x => q.getD x.toNat 0

end Go.Proofs.YtjbfkdaodfdpcaaDoor

/-
  Walks: rows of yes and no; the ring of so many things. Conditions: none.
-/
set_option linter.all false
namespace Go.Proofs.YtjbfkdaodfdpcaaDoor
open Go.Pv

/-- A row of yes and no. -/
def hbl (n : Nat) (g : Nat → Bool) : List PV := (List.range n).map fun i => .bool (g i)
def ixb (n : Nat) (g : Nat → Bool) : Int := match fst' (fun i => !g i) n with | some i => (i : Int) | none => -1
end Go.Proofs.YtjbfkdaodfdpcaaDoor

/-
  The semidirect product of two groups: plain laws, with no program in sight. Conditions: none.
-/
set_option linter.all false
namespace Go.Proofs.YtjbfkdaodfdpcaaDoor
open Go.Pv

/-- A pair's product: the second acts on the other's first. -/
def smi (n' : Nat) (f f' al : Nat → Nat → Nat) (a b : Nat) : Nat := f (a / n') (al (a % n') (b / n')) * n' + f' (a % n') (b % n')

structure Acts (n n' : Nat) (f f' al : Nat → Nat → Nat) : Prop where
  lt : ∀ x i, x < n' → i < n → al x i < n
  hom : ∀ x i j, x < n' → i < n → j < n → al x (f i j) = f (al x i) (al x j)
  onto : ∀ x i, x < n' → i < n → ∃ j, j < n ∧ al x j = i
  mul : ∀ x y i, x < n' → y < n' → i < n → al (f' x y) i = al x (al y i)

section
variable {n n' e e' : Nat} {f f' al : Nat → Nat → Nat}

theorem Acts.one (A : Acts n n' f f' al) (G' : Grp n' f' e') {i : Nat} (hi : i < n) : al e' i = i := by
  obtain ⟨j, hj, rfl⟩ := A.onto e' i G'.el hi
  rw [← A.mul e' e' j G'.el G'.el hj, G'.one_l e' G'.el]
theorem Acts.el (A : Acts n n' f f' al) (G : Grp n f e) {x : Nat} (hx : x < n') : al x e = e := by
  have h1 := A.lt x e hx G.el
  have h2 := A.hom x e e hx G.el G.el
  rw [G.one_l e G.el] at h2
  exact (G.idem h1).1 h2.symm

end
end Go.Proofs.YtjbfkdaodfdpcaaDoor

/-
  Walks: the ring of so many things; tables by a rule. Conditions: none.
-/
set_option linter.all false
namespace Go.Proofs.YtjbfkdaodfdpcaaDoor
open Go.Pv

end Go.Proofs.YtjbfkdaodfdpcaaDoor

/-
  Semidirect products: the fault, and what no fault says. Conditions: none.
-/
set_option linter.all false
namespace Go.Proofs.YtjbfkdaodfdpcaaDoor
open Go.Pv

/-- The code of a row's fault: a map of the group to itself that is one to one. -/
def rwc (N : Int) (m l : List Int) : Int := if ¬ (homf N m N m l).1 = 0 then (homf N m N m l).1 else if ¬ onto1 l N.toNat then 10 else 0
def mgd (m' : List Int) (n' : Nat) (ls : List (List Int)) (x : Nat) : Prop := ∀ y, y < n' → ls.getD (op m' n' x y) [] = cmpl (ls.getD y []) (ls.getD x [])
instance (m' : List Int) (n' : Nat) (ls : List (List Int)) (x : Nat) : Decidable (mgd m' n' ls x) := by unfold mgd; infer_instance
def psf2 (m' : List Int) (ls : List (List Int)) (n n' : Nat) : Int × Int :=
  match fst' (fun x => decide (¬ mgd m' n' ls x)) n' with
  | some x => (7, (x : Int))
  | none => if n * n' > 60 then (9, 0) else (0, 0)
/-- THE FAULT of a group that acts on a group. -/
def psf (N : Int) (m : List Int) (N' : Int) (m' : List Int) (ls : List (List Int)) : Int × Int :=
  if ¬ (tg N m N' m').1 = 0 then tg N m N' m'
  else if ¬ (ls.length : Int) = N' then (8, 0)
  else match fst' (fun i => decide (¬ rwc N m (ls.getD i []) = 0)) ls.length with
    | some i => (rwc N m (ls.getD i []), (i : Int))
    | none => psf2 m' ls N.toNat N'.toNat

section
variable {N N' : Int} {m m' : List Int} {ls : List (List Int)} {n n' : Nat}
/-- What acts, as a rule. -/
def alp (ls : List (List Int)) (x i : Nat) : Nat := hv (ls.getD x []) i
end
end Go.Proofs.YtjbfkdaodfdpcaaDoor

/-
  Walks: prod.Semi. Conditions: none.
-/
set_option linter.all false
namespace Go.Proofs.YtjbfkdaodfdpcaaDoor
open Go.Pv

/-- The group that acts on a group makes. -/
def sg (n n' : Nat) (m m' : List Int) (ls : List (List Int)) : List Int := tbl (fun a b => (smi n' (op m n) (op m' n') (alp ls) a b : Nat)) (n * n')
def sgr (N : Int) (m : List Int) (N' : Int) (m' : List Int) (ls : List (List Int)) : PV := if (psf N m N' m' ls).1 = 0 then gp (N.toNat * N'.toNat : Nat) (sg N.toNat N'.toNat m m' ls) else gp 0 []

def hits (l : List Int) (k i : Nat) : Bool := decide (((i : Nat) : Int) ∈ l.take k)
def sgm (n n' : Nat) (m m' : List Int) (ls : List (List Int)) (a b : Nat) : Int := (smi n' (op m n) (op m' n') (alp ls) a b : Nat)

end Go.Proofs.YtjbfkdaodfdpcaaDoor

/-
  Walks: all automorphisms of a group. Conditions: none.
-/
set_option linter.all false
namespace Go.Proofs.YtjbfkdaodfdpcaaDoor
open Go.Pv
section
variable {n e N d : Nat} {m M : List Int} {σ : Type}
def fA (n : Nat) : PV → Bool
  | .list l => decide (onto1 (l.map pvi) n)
  | _ => false
def oA (n : Nat) (v : List Int) : Prop := v.length = n ∧ ∀ k, k < n → ∃ y : Nat, y < n ∧ v.getD k 0 = ((y : Nat) : Int)
end
end Go.Proofs.YtjbfkdaodfdpcaaDoor

/-
  Walks: inner automorphisms. Conditions: none.
-/
set_option linter.all false
namespace Go.Proofs.YtjbfkdaodfdpcaaDoor
open Go.Pv

/-- Rows in order. -/
def srtL (xs : List (List Int)) : List (List Int) := xs.mergeSort fun v w => decide (¬ cmpL w v < 0)
section
variable {n e : Nat} {m : List Int}
/-- What a thing does to all. -/
def inr (n : Nat) (f : Nat → Nat → Nat) (e b : Nat) : List Int := tbm n fun x => cjr n f e x b
def inl' (n : Nat) (f : Nat → Nat → Nat) (e k : Nat) : List (List Int) := (List.range k).map (inr n f e)
end
end Go.Proofs.YtjbfkdaodfdpcaaDoor

/-
  All homomorphisms are what the search hands out; the laws of maps have begun. Conditions: none.
-/
set_option linter.all false
namespace Go.Proofs.YtjbfkdaodfdpcaaDoor
open Go.Pv

section
variable {n e N d : Nat} {f g : Nat → Nat → Nat}
theorem Hmo.pw (G : Grp n f e) (K : Grp N g d) {φ : Nat → Nat} (h : Hmo n f N g φ) {a : Nat} (ha : a < n) : ∀ k, φ (pw f e a k) = pw g d (φ a) k
  | 0 => h.one G K
  | k + 1 => by
    show φ (f (Go.Proofs.YtjbfkdaodfdpcaaDoor.pw f e a k) a) = g _ _
    rw [h.mul _ _ (G.pw_lt ha k) ha, Hmo.pw G K h ha k]
theorem Hmo.ord (G : Grp n f e) (K : Grp N g d) {φ : Nat → Nat} (h : Hmo n f N g φ) {a : Nat} (ha : a < n) : ord N g d (φ a) ∣ ord n f e a := by
  rw [← K.pw_eq_one (h.lt a ha), ← h.pw G K ha, G.pw_ord ha, h.one G K]
theorem Hmo.same (G : Grp n f e) (K : Grp N g d) {L : List Nat} (hgen : ∀ a, a < n → Gen n f e (fun x => decide (x ∈ L)) a) {φ ψ : Nat → Nat} (h : Hmo n f N g φ) (h' : Hmo n f N g ψ) (heq : ∀ x ∈ L, φ x = ψ x) : ∀ a, a < n → φ a = ψ a := fun a ha => by
  have key : a < n ∧ φ a = ψ a := Gen.least (H := fun a => a < n ∧ φ a = ψ a) ⟨G.el, by rw [h.one G K, h'.one G K]⟩ (fun c b hc hb hp ih => ⟨G.cl _ _ ih.1 hb, by
    rw [h.mul _ _ ih.1 hb, h'.mul _ _ ih.1 hb, ih.2, heq b (by simpa using hp)]⟩) (hgen a ha)
  exact key.2
theorem Hmo.congr (G : Grp n f e) {φ ψ : Nat → Nat} (h : Hmo n f N g φ) (he : ∀ a, a < n → φ a = ψ a) : Hmo n f N g ψ :=
  ⟨fun a ha => by rw [← he a ha]; exact h.lt a ha, fun a b ha hb => by rw [← he _ (G.cl _ _ ha hb), ← he a ha, ← he b hb]; exact h.mul a b ha hb⟩

end

section
variable {n e N d : Nat} {m M : List Int}
/-- All homomorphisms, in some order. -/
noncomputable def hmW (n : Nat) (m : List Int) (e N : Nat) (M : List Int) (d : Nat) : List (List Int) := hsq n (op m n) e N (op M N) d (gl n (op m n) e n) (gl n (op m n) e n) []
/-- All automorphisms, in some order. -/
noncomputable def auW (n : Nat) (m : List Int) (e : Nat) : List (List Int) := (hmW n m e n m e).filter fun v => decide (onto1 v n)
end

/-! ### The laws of maps have begun -/

def cnd (x y : Nat) : List Int := (List.range 8).map fun a => if a < 4 then ((pw (op sq8 8) 0 x a : Nat) : Int) else ((op sq8 8 (pw (op sq8 8) 0 x (a - 4)) y : Nat) : Int)
def cnd8 : List (List Int) := [cnd 1 4, cnd 1 5, cnd 1 6, cnd 1 7, cnd 3 4, cnd 3 5, cnd 3 6, cnd 3 7]
def insR (v : List Int) : List (List Int) → List (List Int)
  | [] => [v]
  | w :: r => if cmpL w v < 0 then w :: insR v r else v :: w :: r
def iny : List (List Int) := (inl' 8 (op sq8 8) 0 8).foldr insR []
end Go.Proofs.YtjbfkdaodfdpcaaDoor

/-
  Walks: the law SeriesComposes. Conditions: none.
-/
set_option linter.all false

namespace Go.Proofs.YtjbfkdaodfdpcaaDoor
open Go.Pv

/-- The numbers, each put where it stands. -/
def ins (z : Int) (l : List Int) : List Int := l.takeWhile (· < z) ++ (z :: l.dropWhile (· < z))
def fac (n : Nat) (T : Nat → Nat → Bool) (k : Nat) : Int := (((thl n (T k)).length / (thl n (T (k + 1))).length : Nat) : Int)
def fos (n : Nat) (T : Nat → Nat → Bool) : Nat → List Int
  | 0 => []
  | k + 1 => ins (fac n T k) (fos n T k)
section
variable {n e : Nat} {m : List Int}

/-- Things, conjugated by the things of a list. -/
def cjs (n : Nat) (f : Nat → Nat → Nat) (e x : Nat) (l : List Int) : List Int := l.map fun z => ((cjr n f e x z.toNat : Nat) : Int)
end
end Go.Proofs.YtjbfkdaodfdpcaaDoor

/-
  The library's sort of numbers, over a row of the caller's own: what it leaves. Conditions: none; a library text.
-/
set_option linter.all false
namespace Go.Pv
open Go.RowKit

section
variable {P : Program} {ρ : Go.Shelf.Ren}
def srt (l : List Int) : List Int := l.mergeSort fun x y => decide (x ≤ y)

/-- slices.Sort of numbers: behind it the row holds them in order. -/
theorem sortI_m (L : Go.Proofs.Lays.n189 P ρ) (zs : List Int) (hlen : zs.length < 4611686018427387904) :
    FnM P (ρ.f 189) [.sl 0 0 zs.length] [.own (opl (il zs))] (.p (.tup [])) [.own (opl (il (srt zs)))] := by
  refine ⟨⟨_, L.f189, by kernel_rfl, rfl⟩, fun C m w vals R => ?_⟩
  have hsz : vals.size = 1 := R.size
  have s0 := R.slot 0
  simp only [St.get, entA, lk, BEq.rfl, cond_true] at s0
  generalize hv0 : vals.getD 0 undef = v0 at s0
  have hvals : vals = #[v0] := by
    apply Array.ext
    · simpa using hsz
    · intro i h1 h2
      simp only [Array.getD_eq_getD_getElem?] at hv0
      match i, h2 with
      | 0, _ => rw [Array.getElem?_eq_getElem h1] at hv0; simpa using hv0
  subst hvals
  cases s0 with
  | sl _ _ _ _ hk0 h0 =>
  by_cases hne : zs = []
  · subst hne
    have hcall : ∃ p cp, v0 = .slice p 0 cp := by
      rcases h0 with ⟨_, a, h0⟩ | ⟨l, cp, hm, rfl, hle, hlo⟩
      · exact ⟨a, _, h0⟩
      · exact ⟨_, _, rfl⟩
    obtain ⟨p, cp, rfl⟩ := hcall
    refine (Go.Proofs.Any.slices_Sort_int_none L p cp w).mono fun e2 w2 ⟨he, hw⟩ => ?_
    subst he hw
    rw [show srt ([] : List Int) = [] from by simp [srt]]
    exact ⟨.tuple #[], m, rfl, R.laid, R.below, R.base, rfl, R.inj, R.blk, R.fro, fun t => by
      cases t with
      | zero => exact .p _ _ (.tup [] #[] rfl fun c h => absurd h (by simp))
      | succ t => exact .dead _, R.mp⟩
  have hpos : 0 < zs.length := List.length_pos_iff.2 hne
  rcases h0 with ⟨h0, _⟩ | ⟨l, cp, hm, rfl, hle, hlo⟩
  · omega
  rcases R.blk 0 (opl (il zs)) rfl with ⟨hx, _⟩ | ⟨l', cur, e, hm', hB, hg, hcs, hmx, hol, hcell⟩
  · exact absurd (show zs = [] by simpa [opl, il] using hx) hne
  rw [hm] at hm'; cases hm'
  rw [opl_length, il_length] at hol
  have hblk : l.g < w.heap.size := (Array.getElem?_eq_some_iff.1 hg).1
  have hrd : ∀ j (h : j < zs.length), cur.getD (l.o + j) undef = .int .i64 zs[j] := fun j h => by
    have := hcell j (by rw [opl_length, il_length]; exact h)
    simp only [opl, il, List.getElem_map] at this
    have h2 := this.p_inv
    generalize cur.getD (l.o + j) undef = v at h2 ⊢
    cases h2
    rfl
  have hH : Go.Sort.Holds (Value.int .i64) w l.g (l.o + 0) zs.toArray := fun j hj => by
    have hj' : j < zs.length := by simpa using hj
    have hjc : l.o + j < cur.size := by omega
    refine ⟨?_, ?_⟩
    · rw [getElem!_pos zs.toArray j hj]
      have := hrd j hj'
      simp only [World.cell?, hg, Nat.add_zero]
      simpa [Array.getD_eq_getD_getElem?, Array.getElem?_eq_getElem hjc] using this
    · simp [World.frozen?, hg]
  have hcall := Go.Proofs.Any.slices_Sort_int L l.g (l.o + 0) cp zs w hH hblk hlen
  refine hcall.mono fun e2 w2 ⟨he, n, os, hw⟩ => ?_
  subst he
  refine ⟨.tuple #[], m, rfl, ?_⟩
  have hyl : (srt zs).length = zs.length := (List.mergeSort_perm zs _).length_eq
  have hd' : (zs.mergeSort fun x y => decide (x ≤ y)).toArray.size = zs.length := by simpa using hyl
  have R1 : Rel C m ⟨1, entA 0 [.sl 0 0 zs.length], hset ([.own (opl (il zs))] ++ ancs 0 [Blk.own (opl (il zs))].length) 0 (.own (opl (il (srt zs))))⟩ #[.slice (some ⟨l.g, l.o + 0, none⟩) zs.length cp] (Go.Sort.putRow (Value.int .i64) (Go.Sort.ahead w n) l.g (l.o + 0) (zs.mergeSort fun x y => decide (x ≤ y)).toArray) := by
    refine R.setBlk (a := { tmps := #[.slice (some ⟨l.g, l.o + 0, none⟩) zs.length cp], defers := [] }) (c := opl (il zs)) rfl hm ⟨rfl, rfl, rfl, by simp, fun k hk => ?_, by simp⟩ (fun b hb => ?_) (cur := Go.Sort.putCells (Value.int .i64) (l.o + 0) (zs.mergeSort fun x y => decide (x ≤ y)).toArray cur) (e := e) ?_ (by simp [Go.Sort.putCells, hcs]) (by rw [opl_length, il_length]; omega) fun j hj => ?_
    · simp only [Go.Sort.putRow, Go.Sort.mapBlock, Array.getElem?_modify]
      rw [if_neg (fun e => hk (by rw [← e]; exact hB))]; rfl
    · simp only [Go.Sort.putRow, Go.Sort.mapBlock, Array.getElem?_modify]
      rw [if_neg (Ne.symm hb)]; rfl
    · simp only [Go.Sort.putRow, Go.Sort.mapBlock, Array.getElem?_modify]
      rw [if_pos trivial]
      show Option.map _ (w.heap[l.g]?) = _
      rw [hg]; rfl
    · rw [opl_length, il_length] at hj
      have hjc : l.o + j < cur.size := by omega
      have hjd : j < (zs.mergeSort fun x y => decide (x ≤ y)).toArray.size := by omega
      have e3 : (Go.Sort.putCells (Value.int .i64) (l.o + 0) (zs.mergeSort fun x y => decide (x ≤ y)).toArray cur).getD (l.o + j) undef = .int .i64 ((srt zs)[j]'hj) := by
        simp only [Go.Sort.putCells, Array.getD_eq_getD_getElem?, Array.getElem?_mapIdx, Array.getElem?_eq_getElem hjc, Option.map_some, Option.getD_some]
        rw [if_pos ⟨by omega, by omega⟩, show l.o + j - (l.o + 0) = j by omega, getElem!_pos _ j hjd]
        rfl
      rw [e3]
      have e5 : (opl (il (srt zs)))[j]'(by rw [opl_length, il_length]; exact hj) = .p (.int .i64 ((srt zs)[j]'hj)) := by simp [opl, il]
      rw [e5]
      exact .p _ _ (.int _ _)
  have R2 := R1.later (w' := w2) (by
    rw [hw]
    refine ⟨rfl, rfl, rfl, by simp, fun k hk => ?_, Nat.le_refl _⟩
    exact Go.Sort.heap_grow_old _ _ hk)
  exact ⟨R2.laid, R2.below, R2.base, rfl, R2.inj, R2.blk, R2.fro, fun t => by
    cases t with
    | zero => exact .p _ _ (.tup [] #[] rfl fun c h => absurd h (by simp))
    | succ t => exact .dead _, R2.mp⟩
end
end Go.Pv

/-
  Plain: what the factors of a list of sets are; sorted lists. Conditions: none.
-/
set_option linter.all false
namespace Go.Proofs.YtjbfkdaodfdpcaaDoor

open Go.Pv
theorem srt_perm (l : List Int) : (srt l).Perm l := List.mergeSort_perm _ _
theorem srt_rise (l : List Int) : (srt l).Pairwise (· ≤ ·) := by
  have := List.pairwise_mergeSort (le := fun x y : Int => decide (x ≤ y)) (fun a b c h1 h2 => by
    simp only [decide_eq_true_eq] at *; omega) (fun a b => by
    simp only [Bool.or_eq_true, decide_eq_true_eq]; omega) l
  exact this.imp fun h => by simpa using h
theorem rise_unique : ∀ (xs ys : List Int), xs.Perm ys → xs.Pairwise (· ≤ ·) → ys.Pairwise (· ≤ ·) → xs = ys
  | [], ys, h, _, _ => h.symm.eq_nil.symm
  | x :: r, [], h, _, _ => h.eq_nil
  | x :: r, y :: s, h, h1, h2 => by
    have hxy : x = y := by
      have hx : x ∈ y :: s := h.mem_iff.1 (by simp)
      have hy : y ∈ x :: r := h.mem_iff.2 (by simp)
      rcases List.mem_cons.1 hx with hx | hx
      · exact hx
      · rcases List.mem_cons.1 hy with hy' | hy'
        · exact hy'.symm
        · have a1 := (List.pairwise_cons.1 h1).1 y hy'
          have a2 := (List.pairwise_cons.1 h2).1 x hx
          omega
    subst hxy
    rw [rise_unique r s (List.Perm.cons_inv h) (List.pairwise_cons.1 h1).2 (List.pairwise_cons.1 h2).2]
theorem srt_len (l : List Int) : (srt l).length = l.length := (srt_perm l).length_eq
section
variable {n e : Nat} {f : Nat → Nat → Nat}
noncomputable def okR (n : Nat) (f : Nat → Nat → Nat) (e : Nat) (l : List Int) : Bool := @decide (∃ p, l = thl n p ∧ Sub n f e p) (Classical.propDecidable _)
/-- The test of a row. -/
def tsl (l : List (List Int)) (i : Nat) : Nat → Bool := tst (l.getD i [])
noncomputable def mxR (n : Nat) (f : Nat → Nat → Nat) (e : Nat) (l : List (List Int)) (k : Nat) : Bool := @decide (Mxn n f e (tsl l k) (tsl l (k + 1))) (Classical.propDecidable _)
/-- In a subgroup; normal in it. -/
def Inn (n : Nat) (p q : Nat → Bool) : Prop := ∀ x, x < n → q x = true → p x = true
def Nin (n : Nat) (f : Nat → Nat → Nat) (e : Nat) (p q : Nat → Bool) : Prop := ∀ a x, a < n → x < n → p a = true → q x = true → q (cjr n f e x a) = true
noncomputable def stF (n : Nat) (f : Nat → Nat → Nat) (e : Nat) (p q : Nat → Bool) : Int := @ite _ (Inn n p q) (Classical.propDecidable _) (@ite _ (Nin n f e p q) (Classical.propDecidable _) 6 4) 7
def facL (l : List (List Int)) (k : Nat) : List Int := (List.range k).map fun j => (((l.getD j []).length / (l.getD (j + 1) []).length : Nat) : Int)
/-- What Factors tells. -/
noncomputable def fsp (n : Nat) (f : Nat → Nat → Nat) (e : Nat) (l : List (List Int)) : List Int × (Int × Int) :=
  bif decide (l.length < 1) || decide (10 < l.length) then ([], (2, 0)) else
  bif decide ((l.getD 0 []).length ≠ n) || decide ((l.getD (l.length - 1) []).length ≠ 1) then ([], (8, 0)) else
  match fst' (fun i => !okR n f e (l.getD i [])) l.length with
  | some i => ([], (5, (i : Int)))
  | none => match fst' (fun k => !mxR n f e l k) (l.length - 1) with
    | some k => ([], (stF n f e (tsl l k) (tsl l (k + 1)), ((k : Int) + 1)))
    | none => (srt (facL l (l.length - 1)), (0, 0))
variable {l : List (List Int)}
/-- As many sets as can be. -/
structure Fw (n : Nat) (l : List (List Int)) : Prop where
  lo : 1 ≤ l.length
  hi : l.length ≤ 10
structure Fz (n : Nat) (l : List (List Int)) : Prop extends Fw n l where
  first : (l.getD 0 []).length = n
  last : (l.getD (l.length - 1) []).length = 1
/-- All in their form. -/
structure Fo (n : Nat) (f : Nat → Nat → Nat) (e : Nat) (l : List (List Int)) : Prop extends Fz n l where
  ok : ∀ i, i < l.length → okR n f e (l.getD i []) = true
end
end Go.Proofs.YtjbfkdaodfdpcaaDoor

/-
  Walks: the law QuotMakes. Conditions: none.
-/
set_option linter.all false
namespace Go.Proofs.YtjbfkdaodfdpcaaDoor
open Go.Pv

theorem qtb_GT {n e : Nat} {m : List Int} (h : GT n m n e) {p : Nat → Bool} (hs : Sub n (op m n) e p) (hN : Nml n (op m n) e p) : GT (cst n (dco n (op m n) p (onp e))).length (qtb n (op m n) (dco n (op m n) p (onp e))) (cst n (dco n (op m n) p (onp e))).length (clq n (dco n (op m n) p (onp e)) e) := by
  have G := h.2.2
  have E := G.dco_eqv hs G.onp_sub
  have Q := cst_qm G E fun a b c d ha hb' hc hd h1 h2 => G.rco_cong hs hN ha hb' hc hd h1 h2
  have hcl : (cst n (dco n (op m n) p (onp e))).length ≤ n := cstp_len _ _ _
  have hb := h.2.1.big
  exact tbl_GT' (by omega) (Q.grp G)
theorem qtb_op {n : Nat} {f : Nat → Nat → Nat} {r : Nat → Nat → Bool} {i j : Nat} (hi : i < (cst n r).length) (hj : j < (cst n r).length) : op (qtb n f r) (cst n r).length i j = qop f (clq n r) (rpq n r) i j := tbl_op' _ hi hj

theorem qev_sub : Sub 8 (op sq8 8) 0 ev4 := by
  refine sub_of sq8_e.2.2 (by decide) fun a b ha hb h1 h2 => ?_
  have key : ∀ a, a < 8 → ∀ b, b < 8 → ev4 a = true → ev4 b = true → ev4 (op sq8 8 a b) = true := by decide +kernel
  exact key a ha b hb h1 h2
theorem qev_nml : Nml 8 (op sq8 8) 0 ev4 := by
  have key : ∀ a, a < 8 → ∀ x, x < 8 → ev4 x = true → ev4 (cjr 8 (op sq8 8) 0 x a) = true := by decide +kernel
  exact key
theorem quotBegun_c : FnC Tryd.prog 39 [] (.bool true) := by
  have h1 : thl 8 ev4 = [0, 2] := by decide +kernel
  have hz : (cst 8 (dco 8 (op sq8 8) ev4 (onp 0))).length = 4 := by decide +kernel
  have hw : whl 8 (dco 8 (op sq8 8) ev4 (onp 0)) = [0, 1, 0, 1, 2, 3, 2, 3] := by decide +kernel
  have hq : qtb 8 (op sq8 8) (dco 8 (op sq8 8) ev4 (onp 0)) = [0, 1, 2, 3, 1, 0, 3, 2, 2, 3, 0, 1, 3, 2, 1, 0] := by decide +kernel
  have hr := quotient_ok sq8_e ev4 qev_sub qev_nml
  have hg := qtb_GT sq8_e qev_sub qev_nml
  have hc : clq 8 (dco 8 (op sq8 8) ev4 (onp 0)) 0 = 0 := by decide +kernel
  rw [h1, hz, hw, hq] at hr
  rw [hz, hq, hc] at hg
  have hp : pw (op [0, 1, 2, 3, 1, 0, 3, 2, 2, 3, 0, 1, 3, 2, 1, 0] 4) 0 1 ((2 : Int) % (ord 4 (op [0, 1, 2, 3, 1, 0, 3, 2, 2, 3, 0, 1, 3, 2, 1, 0] 4) 0 1 : Nat)).toNat = 0 := by decide +kernel
  have hpc := p_c hg (a := 1) (by omega) 2
  rw [hp] at hpc
  refine fnc_of tab_ok Tryd.func39 rfl (by kernel_rfl) (by rw [Tryd.ntmps39]; exact Nat.le_add_left 0 _) ?_; rw [Tryd.ntmps39]
  refine qm ?_
  refine hk_region fun K hK => runs_eval tab_ok ?_
  simp only [ev0, evA, evB, evP, fl, gp, tab, simprocAttr, reduceCtorEq, reduceIte]
  refine fin_run trivial (hK _ ?_) <;> clear hK <;> clear K
  refine qa (qm ?_)
  refine hk_region fun K hK => runs_eval tab_ok ?_
  simp only [ev0, evA, evB, evP, fl, gp, tab, simprocAttr, reduceCtorEq, reduceIte]
  refine fin_stop trivial (runs_call (square_c) rfl rfl rfl (by simp only [dstOk, Nat.reduceLT]) (by repeat (first | exact trivial | constructor)) (runs_eval tab_ok ?_))
  simp only [ev0, evA, evB, evP, fl, gp, tab, simprocAttr, reduceCtorEq, reduceIte]
  refine fin_stop ?_ (runs_call (FnC.sub (args' := [gp 8 sq8, .nn (il [0, 2])]) hr (And.intro (.same _) (And.intro (.nn _) trivial))) rfl rfl rfl (by simp only [dstOk, Nat.reduceLT]) (by repeat (first | exact trivial | constructor)) (runs_eval tab_ok ?_))
  · (first | exact trivial | omega | (simp only [In64] at *; omega) | (simp [In64] at *; omega) | (simp_all; done) | skip)
  simp only [ev0, evA, evB, evP, fl, gp, tab, simprocAttr, reduceCtorEq, reduceIte]
  refine fin_run ?_ (hK _ ?_) <;> clear hK <;> clear K
  · (first | exact trivial | omega | (simp only [In64] at *; omega) | (simp [In64] at *; omega) | (simp_all; done) | skip)
  refine qa (qm ?_)
  refine hk_region fun K hK => runs_eval tab_ok ?_
  simp only [ev0, evA, evB, evP, fl, gp, tab, simprocAttr, reduceCtorEq, reduceIte]
  refine fin_stop trivial (runs_call (FnC.sub (args' := [.list (il [0, 1, 0, 1, 2, 3, 2, 3]), .nn (il [0, 1, 0, 1, 2, 3, 2, 3])]) (ints_c [0, 1, 0, 1, 2, 3, 2, 3] [0, 1, 0, 1, 2, 3, 2, 3] (by decide)) (And.intro (.same _) (And.intro (.nn _) trivial))) rfl rfl rfl (by simp only [dstOk, Nat.reduceLT]) (by repeat (first | exact trivial | constructor)) (runs_eval tab_ok ?_))
  simp only [ev0, evA, evB, evP, fl, gp, tab, simprocAttr, reduceCtorEq, reduceIte]
  refine fin_stop trivial (runs_call (hpc) rfl rfl rfl (by simp only [dstOk, Nat.reduceLT]) (by repeat (first | exact trivial | constructor)) (runs_eval tab_ok ?_))
  simp only [ev0, evA, evB, evP, fl, gp, tab, simprocAttr, reduceCtorEq, reduceIte]
  refine fin_run ?_ (hK _ ?_) <;> clear hK <;> clear K
  · (first | exact trivial | omega | (simp only [In64] at *; omega) | (simp [In64] at *; omega) | (simp_all; done) | skip)
  refine qa (qk ?_)
  simp only [Tryd.results39, enA, ev0, evA, evB, evP, fl, gp, tab, simprocAttr, reduceCtorEq, reduceIte]
  all_goals (rfl)

end Go.Proofs.YtjbfkdaodfdpcaaDoor

/-
  Walks: the law QuotSimple. Conditions: none.
-/
set_option linter.all false
namespace Go.Proofs.YtjbfkdaodfdpcaaDoor
open Go.Pv

/-- A group whose things make it, each with its conjugates. -/
def SimP (n e : Nat) (cw : Nat → Nat → Bool) (k : Nat) : Prop := 1 < n ∧ ∀ a, a < k → a = e ∨ (thl n (cw a)).length = n

theorem abel_ok {n e : Nat} {m : List Int} (h : GT n m n e) (d : Nat → Bool) (hd : ∀ a, a < n → (d a = true ↔ Gen n (op m n) e (dnp n (op m n) e (fun _ => true) fun _ => true) a)) (hs : Sub n (op m n) e d) (hN : Nml n (op m n) e d) :
    FnC Tryd.prog 45 [gp n m] (.tup [gp (cst n (dco n (op m n) d (onp e))).length (qtb n (op m n) (dco n (op m n) d (onp e))), .list (il (whl n (dco n (op m n) d (onp e)))), fl (0, 0)]) := by
  have hb := h.2.1.big
  have hml := h.2.1.len
  have hsq := sq_le hb
  refine fnc_of tab_ok Tryd.func45 rfl (by kernel_rfl) (by rw [Tryd.ntmps45]; exact Nat.le_add_left 1 _) ?_; rw [Tryd.ntmps45]
  refine qm ?_
  refine hk_region fun K hK => runs_eval tab_ok ?_
  simp only [ev0, evA, evB, evP, fl, gp, tab, simprocAttr, reduceCtorEq, reduceIte]
  refine fin_run ?_ (hK _ ?_) <;> clear hK <;> clear K
  · (first | exact trivial | omega | (simp only [In64] at *; omega) | (simp [In64] at *; omega) | (simp_all; done) | skip)
  refine qa (qm ?_)
  refine hk_region fun K hK => runs_eval tab_ok ?_
  simp only [ev0, evA, evB, evP, fl, gp, tab, simprocAttr, reduceCtorEq, reduceIte]
  refine fin_run trivial (hK _ ?_) <;> clear hK <;> clear K
  refine qa (qm (qm ?_))
  refine hk_own0 5 rfl ?_
  refine hk_region fun K hK => runs_eval tab_ok ?_
  simp only [ev0, evA, evB, evP, fl, gp, tab, simprocAttr, reduceCtorEq, reduceIte]
  refine fin_stop trivial (runs_call (check_c n m (by omega)) rfl rfl rfl (by simp only [dstOk, Nat.reduceLT]) (by repeat (first | exact trivial | constructor)) (runs_eval tab_ok ?_))
  simp only [ev0, evA, evB, evP, fl, gp, tab, simprocAttr, reduceCtorEq, reduceIte, gf_of h]
  refine fin_run ?_ (hK _ ?_) <;> clear hK <;> clear K
  · (first | exact trivial | omega | (simp only [In64] at *; omega) | (simp [In64] at *; omega) | (simp_all; done) | skip)
  refine qa (qm ?_)
  refine hk_region fun K hK => runs_eval tab_ok ?_
  simp only [ev0, evA, evB, evP, fl, gp, tab, simprocAttr, reduceCtorEq, reduceIte]
  refine fin_run ?_ (hK _ ?_) <;> clear hK <;> clear K
  · (first | exact trivial | omega | (simp only [In64] at *; omega) | (simp [In64] at *; omega) | (simp_all; done) | skip)
  refine qa ?_
  refine hk_cond rfl (fun hC1 => ?_) (fun hC1 => ?_)
  · cases hC1
  · (try simp only [nhs] at hC1)
    refine qh (qa (qm (qm ?_)))
    refine hk_region fun K hK => runs_eval tab_ok ?_
    simp only [ev0, evA, evB, evP, fl, gp, tab, simprocAttr, reduceCtorEq, reduceIte]
    refine fin_run ?_ (hK _ ?_) <;> clear hK <;> clear K
    · (first | exact trivial | omega | (simp only [In64] at *; omega) | (simp [In64] at *; omega) | (simp_all; done) | skip)
    refine qa (ql ?_)
    refine hk_loop (ι := Nat) (fun a => ⟨45, [(1, .ptr 0 0), (2, .ptr 1 0), (4, .ptr 2 0), (5, .sl 3 0 (thl a fun _ => true).length), (18, .p (.int .i64 n)), (19, .p (.int .i64 a))], [.own [.p (.int .i64 n), .p (.list (il m))], .own [.p (.int .i64 0), .p .nil], .own [.p (.int .i64 0), .p (.int .i64 0)], .own (ol (thl a fun _ => true))]⟩) (fun a => a ≤ n) (fun a => n - a) 0 (Nat.zero_le _) [0, 1, 2, 3] (by simp only [leq, leA, ev0, evA, evB, evP, fl, gp, tab, simprocAttr, reduceCtorEq, reduceIte] <;> first | trivial | simp [thl, thn', ol_nil]) fun a ha => ?_
    have hl := thl_le a fun _ => true
    refine qm ?_
    refine hk_region fun K hK => runs_eval tab_ok ?_
    simp only [ev0, evA, evB, evP, fl, gp, tab, simprocAttr, reduceCtorEq, reduceIte]
    refine fin_run trivial (hK _ ?_) <;> clear hK <;> clear K
    refine qa (qm ?_)
    refine hk_cond rfl (fun hC2 => ?_) (fun hC2 => ?_)
    · (try simp only [nhs] at hC2)
      have hlt : a < n := by omega
      have hs' := thl_succ a fun _ => true
      rw [if_pos rfl] at hs'
      refine qh (qa (qm (ql (qm ?_))))
      refine hk_region fun K hK => runs_eval tab_ok ?_
      simp only [ev0, evA, evB, evP, fl, gp, tab, simprocAttr, reduceCtorEq, reduceIte]
      refine fin_run trivial (hK _ ?_) <;> clear hK <;> clear K
      refine qa ?_
      refine hk_region fun K hK => runs_eval tab_ok ?_
      simp only [ev0, evA, evB, evP, fl, gp, tab, simprocAttr, reduceCtorEq, reduceIte]
      refine fin_run ?_ (hK _ ?_) <;> clear hK <;> clear K
      · (first | exact trivial | omega | (simp only [In64] at *; omega) | (simp [In64] at *; omega) | (simp_all; done) | skip)
      refine qd (qa ?_)
      refine hk_region fun K hK => runs_eval tab_ok ?_
      simp only [ev0, evA, evB, evP, fl, gp, tab, simprocAttr, reduceCtorEq, reduceIte]
      refine fin_run ?_ (hK _ ?_) <;> clear hK <;> clear K
      · (first | exact trivial | omega | (simp only [In64] at *; omega) | (simp [In64] at *; omega) | (simp_all; done) | skip)
      refine qa ?_
      refine ⟨a + 1, [0, 1, 2, 4], by omega, by omega, ?_⟩
      rw [hs']
      simp only [leq, leA, ev0, evA, evB, evP, fl, gp, tab, simprocAttr, reduceCtorEq, reduceIte] <;> first | trivial | omega
    · (try simp only [nhs] at hC2)
      have han : a = n := by omega
      subst han
      refine hk_seal 5 3 rfl rfl ?_
      refine qj (qc (qc (qf (qa (qm ?_)))))
      refine hk_region fun K hK => runs_eval tab_ok ?_
      simp only [ev0, evA, evB, evP, fl, gp, tab, simprocAttr, reduceCtorEq, reduceIte]
      refine fin_stop trivial (runs_call (comm_ok h (fun _ => true) (fun _ => true) d (fun a ha => by rw [tst_cml]; exact hd a ha)) rfl rfl rfl (by simp only [dstOk, Nat.reduceLT]) (by repeat (first | exact trivial | constructor)) (runs_eval tab_ok ?_))
      simp only [ev0, evA, evB, evP, fl, gp, tab, simprocAttr, reduceCtorEq, reduceIte]
      refine fin_run ?_ (hK _ ?_) <;> clear hK <;> clear K
      · (first | exact trivial | omega | (simp only [In64] at *; omega) | (simp [In64] at *; omega) | (simp_all; done) | skip)
      refine qa (qm (qm ?_))
      refine hk_region fun K hK => runs_eval tab_ok ?_
      simp only [ev0, evA, evB, evP, fl, gp, tab, simprocAttr, reduceCtorEq, reduceIte]
      refine fin_run ?_ (hK _ ?_) <;> clear hK <;> clear K
      · (first | exact trivial | omega | (simp only [In64] at *; omega) | (simp [In64] at *; omega) | (simp_all; done) | skip)
      refine qa ?_
      refine hk_cond rfl (fun hC3 => ?_) (fun hC3 => ?_)
      · cases hC3
      · (try simp only [nhs] at hC3)
        refine qh (qa (qm ?_))
        refine hk_region fun K hK => runs_eval tab_ok ?_
        simp only [ev0, evA, evB, evP, fl, gp, tab, simprocAttr, reduceCtorEq, reduceIte]
        refine fin_stop trivial (runs_call (quotient_ok h d hs hN) rfl rfl rfl (by simp only [dstOk, Nat.reduceLT]) (by repeat (first | exact trivial | constructor)) (runs_eval tab_ok ?_))
        simp only [ev0, evA, evB, evP, fl, gp, tab, simprocAttr, reduceCtorEq, reduceIte]
        refine fin_run ?_ (hK _ ?_) <;> clear hK <;> clear K
        · (first | exact trivial | omega | (simp only [In64] at *; omega) | (simp [In64] at *; omega) | (simp_all; done) | skip)
        refine qa (qk ?_)
        simp only [Tryd.results45, enA, ev0, evA, evB, evP, fl, gp, tab, simprocAttr, reduceCtorEq, reduceIte]
        all_goals ((first | exact rfl | exact ⟨rfl, rfl⟩ | exact ⟨rfl, rfl, rfl⟩ | exact ⟨trivial, rfl⟩ | exact ⟨Nat.le_refl _, rfl⟩ | trivial | (simp; done)))

/-- What a thing is conjugated to. -/
def conl (n : Nat) (f : Nat → Nat → Nat) (e a b : Nat) : List Int := (List.range b).map fun c => ((cjr n f e a c : Nat) : Int)
end Go.Proofs.YtjbfkdaodfdpcaaDoor

/-
  Contracts of the library, laid at this dump: numbers, and that each body is the same. Conditions: none; written by a program of this repo out of the kit's own tool.
-/
set_option linter.all false
namespace Go.Proofs
open Go.Shelf
def Tryd.sortI_ren : Go.Shelf.Ren := ⟨fun | 189 => 77 | 125 => 135 | 257 => 134 | 128 => 172 | 129 => 173 | 294 => 163 | 295 => 164 | 296 => 165 | 297 => 166 | 298 => 167 | 299 => 168 | 216 => 169 | 300 => 170 | 301 => 171 | 328 => 187 | 329 => 188 | 330 => 189 | 331 => 190 | 332 => 191 | 215 => 186 | 343 => 203 | n => n, fun | 28 => 22 | 3 => 3 | 46 => 117 | 0 => 0 | 51 => 144 | 53 => 83 | 4 => 4 | 183 => 136 | 182 => 135 | 131 => 141 | 5 => 5 | 9 => 9 | 218 => 154 | 222 => 158 | 228 => 167 | 229 => 168 | n => n, fun | n => n⟩
theorem Tryd.sortI : Go.Proofs.Lays.n189 Tryd.prog Tryd.sortI_ren := {
  mixed := by kernel_rfl
  f125 := Tryd.func135.trans (congrArg some (by kernel_rfl))
  f128 := Tryd.func172.trans (congrArg some (by kernel_rfl))
  f129 := Tryd.func173.trans (congrArg some (by kernel_rfl))
  f189 := Tryd.func77.trans (congrArg some (by kernel_rfl))
  f215 := Tryd.func186.trans (congrArg some (by kernel_rfl))
  f216 := Tryd.func169.trans (congrArg some (by kernel_rfl))
  f257 := Tryd.func134.trans (congrArg some (by kernel_rfl))
  f294 := Tryd.func163.trans (congrArg some (by kernel_rfl))
  f295 := Tryd.func164.trans (congrArg some (by kernel_rfl))
  f296 := Tryd.func165.trans (congrArg some (by kernel_rfl))
  f297 := Tryd.func166.trans (congrArg some (by kernel_rfl))
  f298 := Tryd.func167.trans (congrArg some (by kernel_rfl))
  f299 := Tryd.func168.trans (congrArg some (by kernel_rfl))
  f300 := Tryd.func170.trans (congrArg some (by kernel_rfl))
  f301 := Tryd.func171.trans (congrArg some (by kernel_rfl))
  f328 := Tryd.func187.trans (congrArg some (by kernel_rfl))
  f329 := Tryd.func188.trans (congrArg some (by kernel_rfl))
  f330 := Tryd.func189.trans (congrArg some (by kernel_rfl))
  f331 := Tryd.func190.trans (congrArg some (by kernel_rfl))
  f332 := Tryd.func191.trans (congrArg some (by kernel_rfl))
  f343 := Tryd.func203.trans (congrArg some (by kernel_rfl))
  t0 := Tryd.underlying0
  a0 := Tryd.isAgg0
  z0 := Tryd.sizeOf0
  v0 := Tryd.zeroValue0
  t3 := Tryd.underlying3
  a3 := Tryd.isAgg3
  z3 := Tryd.sizeOf3
  v3 := Tryd.zeroValue3
  t4 := Tryd.underlying4
  a4 := Tryd.isAgg4
  z4 := Tryd.sizeOf4
  v4 := Tryd.zeroValue4
  t5 := Tryd.underlying5
  a5 := Tryd.isAgg5
  z5 := Tryd.sizeOf5
  v5 := Tryd.zeroValue5
  t9 := Tryd.underlying9
  a9 := Tryd.isAgg9
  z9 := Tryd.sizeOf9
  v9 := Tryd.zeroValue9
  t28 := Tryd.underlying22
  a28 := Tryd.isAgg22
  z28 := Tryd.sizeOf22
  v28 := Tryd.zeroValue22
  t46 := Tryd.underlying117
  a46 := Tryd.isAgg117
  z46 := Tryd.sizeOf117
  v46 := Tryd.zeroValue117
  t51 := Tryd.underlying144
  a51 := Tryd.isAgg144
  z51 := Tryd.sizeOf144
  v51 := Tryd.zeroValue144
  t53 := Tryd.underlying83
  a53 := Tryd.isAgg83
  z53 := Tryd.sizeOf83
  v53 := Tryd.zeroValue83
  t131 := Tryd.underlying141
  a131 := Tryd.isAgg141
  z131 := Tryd.sizeOf141
  v131 := Tryd.zeroValue141
  t182 := Tryd.underlying135
  a182 := Tryd.isAgg135
  z182 := Tryd.sizeOf135
  v182 := Tryd.zeroValue135
  t183 := Tryd.underlying136
  a183 := Tryd.isAgg136
  z183 := Tryd.sizeOf136
  v183 := Tryd.zeroValue136
  t218 := Tryd.underlying154
  a218 := Tryd.isAgg154
  z218 := Tryd.sizeOf154
  v218 := Tryd.zeroValue154
  t222 := Tryd.underlying158
  a222 := Tryd.isAgg158
  z222 := Tryd.sizeOf158
  v222 := Tryd.zeroValue158
  t228 := Tryd.underlying167
  a228 := Tryd.isAgg167
  z228 := Tryd.sizeOf167
  v228 := Tryd.zeroValue167
  t229 := Tryd.underlying168
  a229 := Tryd.isAgg168
  z229 := Tryd.sizeOf168
  v229 := Tryd.zeroValue168 }
end Go.Proofs

/-
  The program's Factors. Conditions: none.
-/
set_option linter.all false
namespace Go.Proofs.YtjbfkdaodfdpcaaDoor
open Go.Pv

section
variable {n e k d : Nat} {f g : Nat → Nat → Nat} {p q : Nat → Bool}
/-- Where the things of the second stand in the first. -/
def kix (p : Nat → Bool) (l : List Int) : List Int := l.map fun z => ((pix p z.toNat : Nat) : Int)
end

section
variable {n e : Nat} {m : List Int} {p q : Nat → Bool}
def Qr (n : Nat) (m : List Int) (e : Nat) (p q : Nat → Bool) : Nat → Nat → Bool := Go.Proofs.YtjbfkdaodfdpcaaDoor.dco (thl n p).length (op (ptb n (op m n) p) (thl n p).length) (dwn n p q) (onp (pix p e))
end
end Go.Proofs.YtjbfkdaodfdpcaaDoor

/-
  Rows of equations modulo a prime, reduced as they come: what is reckoned. Conditions: none.
-/
set_option linter.all false
namespace Go.Proofs.YtjbfkdaodfdpcaaDoor
open Go.Pv

/-- The primes that are let in. -/
def pr (p : Nat) : Prop := p = 2 ∨ p = 3 ∨ p = 5 ∨ p = 7
instance (p : Nat) : Decidable (pr p) := by unfold pr; infer_instance
theorem pr.le {p : Nat} (h : pr p) : 2 ≤ p ∧ p ≤ 7 := by unfold pr at h; omega

/-- A row, written anew from i to j. -/
def updR (f : Nat → Int) (i j : Nat) (u : List Int) : List Int := (List.range u.length).map fun t => if i ≤ t ∧ t < j then f t else u.getD t 0

/-- All that is in a row is between 0 and p. -/
def rng (p : Nat) (u : List Int) : Prop := ∀ t, t < u.length → 0 ≤ u.getD t 0 ∧ u.getD t 0 < p

/-- The least number that makes 1 of another. -/
def inv (p : Nat) (x : Int) : Nat := ((List.range p).find? fun k => decide ((k * x.toNat) % p = 1)).getD 0

/-- The rows that are there, by where they begin. -/
def dOf : List (Nat × List Int) → Int → Bool
  | [] => fun _ => false
  | e :: L => fun u => u == (e.1 : Int) || dOf L u
def vOf : List (Nat × List Int) → Int → PV
  | [] => fun _ => default
  | e :: L => fun u => bif u == (e.1 : Int) then .list (il e.2) else vOf L u
def lkp : List (Nat × List Int) → Nat → Option (List Int)
  | [], _ => none
  | e :: L, i => if i = e.1 then some e.2 else lkp L i

/-- A row without another's multiple. -/
def redAt (p : Nat) (w : List Int) (i : Nat) (u : List Int) : List Int := updR (fun t => (u.getD t 0 - u.getD i 0 * w.getD t 0) % p) i u.length u
def mulAll (p : Nat) (k : Int) (u : List Int) : List Int := updR (fun t => u.getD t 0 * k % p) 0 u.length u
def nrm (p : Nat) (u : List Int) : List Int := updR (fun t => u.getD t 0 % p) 0 u.length u

def scan (p : Nat) (L : List (Nat × List Int)) : Nat → Nat → List Int → List (Nat × List Int) × Bool
  | 0, _, _ => (L, false)
  | m + 1, i, u =>
    if u.getD i 0 = 0 then scan p L m (i + 1) u else
    match lkp L i with
    | none => ((i, mulAll p (inv p (u.getD i 0)) u) :: L, true)
    | some w => scan p L m (i + 1) (redAt p w i u)

def addL (p : Nat) (L : List (Nat × List Int)) (v : List Int) : List (Nat × List Int) × Bool := scan p L v.length 0 (nrm p v)

/-- Rows that are as they should be. -/
structure Ech (p n : Nat) (L : List (Nat × List Int)) : Prop where
  keys : (L.map (·.1)).Nodup
  lt : ∀ e ∈ L, e.1 < n
  len : ∀ e ∈ L, e.2.length = n
  rg : ∀ e ∈ L, rng p e.2
  one : ∀ e ∈ L, e.2.getD e.1 0 = 1
  zero : ∀ e ∈ L, ∀ j, j < e.1 → e.2.getD j 0 = 0

end Go.Proofs.YtjbfkdaodfdpcaaDoor

/-
  Walks: rows of equations: a new one; a row is added. Conditions: none.
-/
set_option linter.all false
namespace Go.Proofs.YtjbfkdaodfdpcaaDoor
open Go.Pv

theorem clone_c (v : List Int) (h0 : v ≠ []) (hl : v.length ≤ 1000000) : FnG Tryd.prog 109 [.list (il v)] (.sl 0 0 v.length) [.own (ol v)] := by
  have hp : 0 < v.length := List.length_pos_iff.2 h0
  refine fng_of tab_ok Tryd.func109 rfl (by kernel_rfl) (by rw [Tryd.ntmps109]; exact Nat.le_add_left 1 _) ?_; rw [Tryd.ntmps109]
  refine qm ?_
  refine hk_region fun K hK => runs_eval tab_ok ?_
  simp only [ev0, evA, evB, evP, fl, gp, tab, simprocAttr, reduceCtorEq, reduceIte]
  refine fin_run trivial (hK _ ?_) <;> clear hK <;> clear K
  refine qa (qm (qm ?_))
  refine hk_region fun K hK => runs_eval tab_ok ?_
  simp only [ev0, evA, evB, evP, fl, gp, tab, simprocAttr, reduceCtorEq, reduceIte]
  refine fin_run ?_ (hK _ ?_) <;> clear hK <;> clear K
  · simp [il, h0]
  refine qa ?_
  refine hk_cond rfl (fun hC1 => ?_) (fun hC1 => ?_)
  · cases hC1
  · (try simp only [nhs] at hC1)
    refine qh (qa (qm ?_))
    refine hk_region fun K hK => runs_eval tab_ok ?_
    simp only [ev0, evA, evB, evP, fl, gp, tab, simprocAttr, reduceCtorEq, reduceIte]
    refine fin_run ?_ (hK _ ?_) <;> clear hK <;> clear K
    · (first | exact trivial | omega | (simp only [In64] at *; omega) | (simp [In64] at *; omega) | (simp_all; done) | skip)
    refine qa (qk ?_)
    simp only [Tryd.results109, PostG, endG, rvsA, rvA, mkTup, ev0, evA, evB, evP, fl, gp, tab, simprocAttr, reduceCtorEq, reduceIte]
    refine ⟨[0], rfl, rfl, rfl, by simp, ⟨⟨?_, ol_sc _ _⟩, trivial⟩, trivial⟩
    rw [ol_ren, take_len]

end Go.Proofs.YtjbfkdaodfdpcaaDoor

/-
  Walks: kernels and images. Conditions: none.
-/
set_option linter.all false
namespace Go.Proofs.YtjbfkdaodfdpcaaDoor
open Go.Pv

section
variable {α : Type} [DecidableEq α]
theorem mem_cpN {d : α} {xs : List α} {k : Nat} {x : α} : x ∈ cpN d xs k ↔ ∃ j, j < k ∧ (j = 0 ∨ xs.getD j d ≠ xs.getD (j - 1) d) ∧ xs.getD j d = x := by
  unfold cpN
  rw [List.mem_map]
  constructor
  · rintro ⟨j, hj, rfl⟩
    rw [List.mem_filter, List.mem_range, Bool.or_eq_true, beq_iff_eq, decide_eq_true_eq] at hj
    exact ⟨j, hj.1, hj.2, rfl⟩
  · rintro ⟨j, h1, h2, rfl⟩
    refine ⟨j, ?_, rfl⟩
    rw [List.mem_filter, List.mem_range, Bool.or_eq_true, beq_iff_eq, decide_eq_true_eq]
    exact ⟨h1, h2⟩
theorem mem_cps {d : α} {xs : List α} {x : α} : x ∈ cps d xs ↔ x ∈ xs := by
  unfold cps
  rw [mem_cpN]
  constructor
  · rintro ⟨j, h1, _, rfl⟩
    simp [List.getD, List.getElem?_eq_getElem h1]
  · intro hx
    obtain ⟨i, hi, rfl⟩ := List.getElem_of_mem hx
    have e : xs[i] = xs.getD i d := by simp [List.getD, List.getElem?_eq_getElem hi]
    rw [e]
    clear e hx
    induction i with
    | zero => exact ⟨0, hi, .inl rfl, rfl⟩
    | succ i ih =>
      by_cases h : xs.getD (i + 1) d = xs.getD i d
      · rw [h]; exact ih (by omega)
      · exact ⟨i + 1, hi, .inr h, rfl⟩
theorem cps_pw {d : α} {xs : List α} {R R' : α → α → Prop} (h : xs.Pairwise R') (hR : ∀ a b, R' a b → a ≠ b → R a b) (htr : ∀ a b c, R' a b → R b c → R a c) : (cps d xs).Pairwise R := by
  unfold cps cpN
  rw [List.pairwise_map]
  have h1 : ((List.range xs.length).filter fun j => j == 0 || decide (xs.getD j d ≠ xs.getD (j - 1) d)).Pairwise (· < ·) := List.Pairwise.filter _ List.pairwise_lt_range
  refine h1.imp_of_mem fun {i j} hi hj hij => ?_
  rw [List.mem_filter, List.mem_range, Bool.or_eq_true, beq_iff_eq, decide_eq_true_eq] at hi hj
  have hg : ∀ a b, a < b → b < xs.length → R' (xs.getD a d) (xs.getD b d) := fun a b hab hb => by
    have := List.pairwise_iff_getElem.1 h a b (by omega) hb hab
    simpa [List.getD, List.getElem?_eq_getElem hb, List.getElem?_eq_getElem (show a < xs.length by omega)] using this
  have hne : xs.getD (j - 1) d ≠ xs.getD j d := fun he => by
    rcases hj.2 with h | h
    · omega
    · exact h he.symm
  have hl := hR _ _ (hg (j - 1) j (by omega) hj.1) hne
  by_cases hji : i = j - 1
  · rw [hji]; exact hl
  · exact htr _ _ _ (hg i (j - 1) (by omega) (by omega)) hl
end
theorem cps_srt {l : List Int} {n : Nat} {p : Nat → Bool} (h : ∀ x, x ∈ l ↔ ∃ a, a < n ∧ p a = true ∧ x = ((a : Nat) : Int)) : cps 0 (srt l) = thl n p := by
  have h1 : (cps 0 (srt l)).Pairwise (· < ·) := cps_pw (R' := (· ≤ ·)) (srt_rise l) (fun a b h1 h2 => by omega) (fun a b c h1 h2 => by omega)
  have h2 : (thl n p).Pairwise (· < ·) := thl_asc n p
  refine rise_unique _ _ ?_ (h1.imp fun h => Int.le_of_lt h) (h2.imp fun h => Int.le_of_lt h)
  refine (List.perm_ext_iff_of_nodup (h1.imp fun h => Int.ne_of_lt h) (h2.imp fun h => Int.ne_of_lt h)).2 fun x => ?_
  rw [mem_cps, (srt_perm l).mem_iff, h, mem_thl]

section
variable {n e n' e' : Nat} {m m' l : List Int}
/-- The kernel; the image. -/
def kerp (l : List Int) (e' : Nat) (a : Nat) : Bool := decide (hv l a = e')
def imgp (l : List Int) (n : Nat) (b : Nat) : Bool := (List.range n).any fun a => hv l a == b
theorem imgp_iff {b : Nat} : imgp l n b = true ↔ ∃ a, a < n ∧ hv l a = b := by
  simp [imgp]
theorem compactI_p (xs : List Int) (hl : xs.length ≤ 1000000) : FnM Tryd.prog 110 [.sl 0 0 xs.length] [.own (opl (il xs))] (.sl 0 0 (cps 0 xs).length) [.own (opl (il (cps 0 xs ++ List.replicate (xs.length - (cps 0 xs).length) 0)))] := compactI_c xs hl
theorem image_ok (h : GT n m n e) (h' : GT n' m' n' e') (hm : m.length ≤ 1000000000000000) (hm' : m'.length ≤ 1000000000000000) (hH : Hom m m' l n n') (hf : homf n m n' m' l = (0, 0)) :
    FnC Tryd.prog 42 [gp n m, gp n' m', .list (il l)] (.tup [.list (il (thl n' (imgp l n))), fl (0, 0)]) := by
  have hc := homCheck_c n m n' m' l hm hm'
  rw [hf] at hc
  obtain ⟨hl, hv1, _⟩ := hH
  have hn := h.2.1.big
  have hpos : 0 < n := h.2.1.pos
  have hci : cps 0 (srt l) = thl n' (imgp l n) := cps_srt fun x => by
    constructor
    · intro hx
      obtain ⟨i, hi, rfl⟩ := List.getElem_of_mem hx
      obtain ⟨ev, lv⟩ := hv1 i (by omega)
      exact ⟨hv l i, lv, imgp_iff.2 ⟨i, by omega, rfl⟩, by rw [← ev]; simp [List.getD, List.getElem?_eq_getElem hi]⟩
    · rintro ⟨b, hb, h2, rfl⟩
      obtain ⟨a, ha, rfl⟩ := imgp_iff.1 h2
      obtain ⟨ev, _⟩ := hv1 a ha
      rw [← ev]; simp [List.getD, List.getElem?_eq_getElem (show a < l.length by omega)]
  have hlr := srt_len l
  refine fnc_of tab_ok Tryd.func42 rfl (by kernel_rfl) (by rw [Tryd.ntmps42]; exact Nat.le_add_left 3 _) ?_; rw [Tryd.ntmps42]
  refine qm ?_
  refine hk_region fun K hK => runs_eval tab_ok ?_
  simp only [ev0, evA, evB, evP, fl, gp, tab, simprocAttr, reduceCtorEq, reduceIte]
  refine fin_run ?_ (hK _ ?_) <;> clear hK <;> clear K
  · (first | exact trivial | omega | (simp only [In64] at *; omega) | (simp [In64] at *; omega) | (simp_all; done) | skip)
  refine qa (qm (qm ?_))
  refine hk_region fun K hK => runs_eval tab_ok ?_
  simp only [ev0, evA, evB, evP, fl, gp, tab, simprocAttr, reduceCtorEq, reduceIte]
  refine fin_stop trivial (runs_call (hc) rfl rfl rfl (by simp only [dstOk, Nat.reduceLT]) (by repeat (first | exact trivial | constructor)) (runs_eval tab_ok ?_))
  simp only [ev0, evA, evB, evP, fl, gp, tab, simprocAttr, reduceCtorEq, reduceIte]
  refine fin_run ?_ (hK _ ?_) <;> clear hK <;> clear K
  · (first | exact trivial | omega | (simp only [In64] at *; omega) | (simp [In64] at *; omega) | (simp_all; done) | skip)
  refine qa (qm ?_)
  refine hk_region fun K hK => runs_eval tab_ok ?_
  simp only [ev0, evA, evB, evP, fl, gp, tab, simprocAttr, reduceCtorEq, reduceIte]
  refine fin_run ?_ (hK _ ?_) <;> clear hK <;> clear K
  · (first | exact trivial | omega | (simp only [In64] at *; omega) | (simp [In64] at *; omega) | (simp_all; done) | skip)
  refine qa ?_
  refine hk_cond rfl (fun hC1 => ?_) (fun hC1 => ?_)
  · (try simp only [nhs] at hC1)
    simp at hC1
  · (try simp only [nhs] at hC1)
    refine qh (qa (qm ?_))
    refine hk_region fun K hK => runs_eval tab_ok ?_
    simp only [ev0, evA, evB, evP, fl, gp, tab, simprocAttr, reduceCtorEq, reduceIte]
    refine fin_stop trivial (runs_callG (clone_c l (fun h => by rw [h] at hl; simp at hl; omega) (by omega)) rfl rfl (by first | rfl | (simp [scG, scA, sc1, opl]; done) | (simp only [scG, List.all_cons, List.all_nil, ol_sc, Bool.and_true]; rfl)) (by simp only [dstOk, Nat.reduceLT]) (by repeat (first | exact trivial | constructor)) (runs_eval tab_ok ?_))
    simp only [Go.Pv.shf, List.range', Blk.ren, opl_ren, ren, ren1, ev0, evA, evB, evP, fl, gp, tab, simprocAttr, reduceCtorEq, reduceIte]
    refine fin_run trivial (hK _ ?_) <;> clear hK <;> clear K
    refine qa (qm ?_)
    refine hk_region fun K hK => runs_eval tab_ok ?_
    simp only [ev0, evA, evB, evP, fl, gp, tab, simprocAttr, reduceCtorEq, reduceIte]
    refine fin_stop ?_ (runs_callM [4] (sortI_m Go.Proofs.Tryd.sortI l (by omega)) rfl rfl ?_ (by simp only [leA, ev0, evA, evB, evP, fl, gp, tab, simprocAttr, reduceCtorEq, reduceIte]; first | trivial | (simp only [ll_takeL]; first | trivial | (repeat constructor; done)) | (repeat constructor)) (by decide) (by first | rfl | (simp only [List.length_cons, List.length_nil, List.length_append]; decide)) (by first | rfl | (simp only [scM, opl_sc, List.all_cons, List.all_nil, List.length_cons, List.length_nil]; first | rfl | decide) | (simp [scM, scA, sc1, mpKeep, notAnc]; done)) (by simp only [dstOk, Nat.reduceLT]) (runs_eval tab_ok ?_))
    · (first | exact trivial | omega | (simp only [In64] at *; omega) | (simp [In64] at *; omega) | (simp_all; done) | skip)
    · (simp only [argsM, argM1, peekG, peekS, scA, sc1, ren, ren1, List.map_cons, List.map_nil, List.append_nil, List.cons_append, List.nil_append, enA, ev0, evA, evB, evP, fl, gp, tab, simprocAttr, reduceCtorEq, reduceIte]; try trivial)
    simp only [putM, hset, List.range', Blk.ren, ren, ren1, List.map_cons, List.map_nil, List.cons_append, List.nil_append, List.append_nil, List.length_cons, List.length_nil, ev0, evA, evB, evP, fl, gp, tab, simprocAttr, reduceCtorEq, reduceIte]
    refine fin_run trivial (hK _ ?_) <;> clear hK <;> clear K
    refine qa (qm ?_)
    refine hk_region fun K hK => runs_eval tab_ok ?_
    simp only [ev0, evA, evB, evP, fl, gp, tab, simprocAttr, reduceCtorEq, reduceIte]
    refine fin_stop ?_ (runs_callM [4] (compactI_p (srt l) (by omega)) rfl rfl ?_ (by simp only [leA, ev0, evA, evB, evP, fl, gp, tab, simprocAttr, reduceCtorEq, reduceIte]; first | trivial | (simp only [ll_takeL]; first | trivial | (repeat constructor; done)) | (repeat constructor)) (by decide) (by first | rfl | (simp only [List.length_cons, List.length_nil, List.length_append]; decide)) (by first | rfl | (simp only [scM, opl_sc, List.all_cons, List.all_nil, List.length_cons, List.length_nil]; first | rfl | decide) | (simp [scM, scA, sc1, mpKeep, notAnc]; done)) (by simp only [dstOk, Nat.reduceLT]) (runs_eval tab_ok ?_))
    · (first | exact trivial | omega | (simp only [In64] at *; omega) | (simp [In64] at *; omega) | (simp_all; done) | skip)
    · (simp only [argsM, argM1, peekG, peekS, scA, sc1, ren, ren1, List.map_cons, List.map_nil, List.append_nil, List.cons_append, List.nil_append, enA, ev0, evA, evB, evP, fl, gp, tab, simprocAttr, reduceCtorEq, reduceIte]; try trivial)
      rw [hlr]
    simp only [putM, hset, List.range', Blk.ren, ren, ren1, List.map_cons, List.map_nil, List.cons_append, List.nil_append, List.append_nil, List.length_cons, List.length_nil, ev0, evA, evB, evP, fl, gp, tab, simprocAttr, reduceCtorEq, reduceIte]
    refine fin_run ?_ (hK _ ?_) <;> clear hK <;> clear K
    · (first | exact trivial | omega | (simp only [In64] at *; omega) | (simp [In64] at *; omega) | (simp_all; done) | skip)
    refine qa (qk ?_)
    simp only [Tryd.results42, enA, ev0, evA, evB, evP, fl, gp, tab, simprocAttr, reduceCtorEq, reduceIte]
    refine ⟨by simp, ?_⟩
    rw [List.take_left, hci]
end
end Go.Proofs.YtjbfkdaodfdpcaaDoor

/-
  The law HomComposes. Conditions: none.
-/
set_option linter.all false
namespace Go.Proofs.YtjbfkdaodfdpcaaDoor
open Go.Pv

section
variable {n e n' e' : Nat} {m m' l k : List Int}
theorem homf_of (h : GT n m n e) (h' : GT n' m' n' e') (hH : Hom m m' l n n') : homf n m n' m' l = (0, 0) := by
  rw [homf_2 (by rw [tg_ok h h']) (by rw [hH.1]) fun j hj => decide_eq_false fun hb => by
    obtain ⟨h1, h2⟩ := hH.2.1 j (by rw [← hH.1]; exact hj)
    rw [h1] at hb; omega]
  exact homf2_0 fun j hj => hH.2.2 j hj
theorem Hom.hmo (hH : Hom m m' l n n') : Hmo n (op m n) n' (op m' n') (hv l) := ⟨fun a ha => (hH.2.1 a ha).2, fun a b ha hb => (hH.2.2 a ha b hb).symm⟩
theorem hom_of_hmo {φ : Nat → Nat} (G : Grp n (op m n) e) (h : Hmo n (op m n) n' (op m' n') φ) : Hom m m' (tbm n φ) n n' := by
  have hvv : ∀ a, a < n → hv (tbm n φ) a = φ a := fun a ha => by unfold hv; rw [tbm_get ha]; rfl
  refine ⟨tbm_len n φ, fun a ha => ?_, fun a ha b hb => ?_⟩
  · rw [hvv a ha, tbm_get ha]; exact ⟨rfl, h.lt a ha⟩
  · rw [hvv a ha, hvv b hb, hvv _ (G.cl _ _ ha hb), h.mul a b ha hb]
theorem Hom.rng (hH : Hom m m' l n n') : ∀ x ∈ l, 0 ≤ x ∧ x < (n' : Int) := fun x hx => by
  obtain ⟨i, hi, rfl⟩ := List.getElem_of_mem hx
  obtain ⟨h1, h2⟩ := hH.2.1 i (by rw [← hH.1]; exact hi)
  rw [show l.getD i 0 = l[i] by simp [List.getD, List.getElem?_eq_getElem hi]] at h1
  rw [h1]; omega
end
end Go.Proofs.YtjbfkdaodfdpcaaDoor

/-
  The law HomTheorem. Conditions: none.
-/
set_option linter.all false
namespace Go.Proofs.YtjbfkdaodfdpcaaDoor
open Go.Pv

section
variable {n e N d : Nat} {f g : Nat → Nat → Nat} {φ : Nat → Nat}
theorem Hmo.iv (G : Grp n f e) (K : Grp N g d) (h : Hmo n f N g φ) {a : Nat} (ha : a < n) : φ (iv n f e a) = iv N g d (φ a) := by
  have h1 := h.lt a ha
  have h2 := h.lt _ (G.iv_lt ha)
  have h3 := h.mul a _ ha (G.iv_lt ha)
  rw [G.mul_iv ha, h.one G K] at h3
  refine K.cancel_l h1 h2 (K.iv_lt h1) ?_
  rw [← h3, K.mul_iv h1]
theorem ker_co (G : Grp n f e) (K : Grp N g d) (h : Hmo n f N g φ) {a b : Nat} (ha : a < n) (hb : b < n) : dco n f (fun a => decide (φ a = d)) (onp e) a b = true ↔ φ a = φ b := by
  rw [G.rco_iff ha hb, decide_eq_true_eq, h.mul _ _ hb (G.iv_lt ha), h.iv G K ha]
  have h1 := h.lt a ha
  have h2 := h.lt b hb
  have hi := K.iv_lt h1
  constructor
  · intro hh
    have : g (g (φ b) (iv N g d (φ a))) (φ a) = g d (φ a) := by rw [hh]
    rw [K.assoc _ _ _ h2 hi h1, K.iv_mul h1, K.one_r _ h2, K.one_l _ h1] at this
    exact this.symm
  · intro hh
    rw [hh, K.mul_iv h2]
end
end Go.Proofs.YtjbfkdaodfdpcaaDoor

/-
  The law QuotAbel. Conditions: none.
-/
set_option linter.all false
namespace Go.Proofs.YtjbfkdaodfdpcaaDoor
open Go.Pv

section
variable {n e N d : Nat} {f g : Nat → Nat → Nat} {φ : Nat → Nat} {q : Nat → Bool}
theorem cmt_ker (G : Grp n f e) (K : Grp N g d) (h : Hmo n f N g φ) (hc : ∀ a b, a < n → b < n → g (φ a) (φ b) = g (φ b) (φ a)) {a b : Nat} (ha : a < n) (hb : b < n) : φ (cmt n f e a b) = d := by
  have h1 := h.lt a ha
  have h2 := h.lt b hb
  unfold cmt
  have i1 := G.iv_lt ha
  have i2 := G.iv_lt hb
  have j1 := K.iv_lt h1
  have j2 := K.iv_lt h2
  rw [h.mul _ _ (G.cl _ _ i1 i2) (G.cl _ _ ha hb), h.mul _ _ i1 i2, h.mul a b ha hb, h.iv G K ha, h.iv G K hb, hc a b ha hb,
    K.assoc _ _ _ j1 j2 (K.cl _ _ h2 h1), ← K.assoc _ _ _ j2 h2 h1, K.iv_mul h2, K.one_l _ h1, K.iv_mul h1]
theorem der_ker (G : Grp n f e) (K : Grp N g d) (h : Hmo n f N g φ) (hc : ∀ a b, a < n → b < n → g (φ a) (φ b) = g (φ b) (φ a)) (hq : ∀ a, a < n → (q a = true ↔ Gen n f e (dnp n f e (fun _ => true) fun _ => true) a)) {a : Nat} (ha : a < n) (h1 : q a = true) : φ a = d := by
  have key : a < n ∧ φ a = d := Gen.least (H := fun a => a < n ∧ φ a = d) ⟨G.el, h.one G K⟩ (fun c x _ hx hp ih => by
    obtain ⟨y, z, hy, hz, _, _, rfl⟩ := dnp_iff.1 hp
    exact ⟨G.cl _ _ ih.1 hx, by rw [h.mul _ _ ih.1 hx, ih.2, cmt_ker G K h hc hy hz, K.one_l _ K.el]⟩) ((hq a ha).1 h1)
  exact key.2
/-- What goes through the quotient. -/
theorem thr_eq (G : Grp n f e) (K : Grp N g d) (h : Hmo n f N g φ) (hc : ∀ a b, a < n → b < n → g (φ a) (φ b) = g (φ b) (φ a)) (hq : ∀ a, a < n → (q a = true ↔ Gen n f e (dnp n f e (fun _ => true) fun _ => true) a)) {a b : Nat} (ha : a < n) (hb : b < n) (hr : dco n f q (onp e) a b = true) : φ a = φ b := by
  rw [G.rco_iff ha hb] at hr
  have := der_ker G K h hc hq (G.cl _ _ hb (G.iv_lt ha)) hr
  refine (ker_co G K h ha hb).1 ?_
  rw [G.rco_iff ha hb, decide_eq_true_eq]; exact this
end

set_option maxHeartbeats 4000000 in
theorem quotAbel_c (N : Int) (m : List Int) (N' : Int) (m' l : List Int) (hm : m.length ≤ 17592186043904) (hm' : m'.length ≤ 17592186043904) (hl : l.length ≤ 17592186043904) : FnC Tryd.prog 7 [gp N m, gp N' m', .list (il l)] (.bool true) := by
  have hc := homCheck_c N m N' m' l (by omega) (by omega)
  have hr := homFault_c N m N' m' l (by omega) (by omega)
  refine fnc_of tab_ok Tryd.func7 rfl (by kernel_rfl) (by rw [Tryd.ntmps7]; exact Nat.le_add_left 3 _) ?_; rw [Tryd.ntmps7]
  refine qm ?_
  refine hk_region fun K hK => runs_eval tab_ok ?_
  simp only [ev0, evA, evB, evP, fl, gp, tab, simprocAttr, reduceCtorEq, reduceIte]
  refine fin_run ?_ (hK _ ?_) <;> clear hK <;> clear K
  · (first | exact trivial | omega | (simp only [In64] at *; omega) | (simp [In64] at *; omega) | (simp_all; done) | skip)
  refine qa (qm (qm ?_))
  refine hk_region fun K hK => runs_eval tab_ok ?_
  simp only [ev0, evA, evB, evP, fl, gp, tab, simprocAttr, reduceCtorEq, reduceIte]
  refine fin_stop trivial (runs_call (quotBegun_c) rfl rfl rfl (by simp only [dstOk, Nat.reduceLT]) (by repeat (first | exact trivial | constructor)) (runs_eval tab_ok ?_))
  simp only [ev0, evA, evB, evP, fl, gp, tab, simprocAttr, reduceCtorEq, reduceIte]
  refine fin_run trivial (hK _ ?_) <;> clear hK <;> clear K
  refine qa ?_
  refine hk_cond rfl (fun hC1 => ?_) (fun hC1 => ?_)
  · cases hC1
  · (try simp only [nhs] at hC1)
    refine qh (qa (qm (qm ?_)))
    by_cases hf : (homf N m N' m' l).1 = 0
    · obtain ⟨n, e, n', e', h, h', hH, hf⟩ := homf_ok hf
      obtain rfl := h.1
      obtain rfl := h'.1
      have hn := h.2.1.big
      have hn' := h'.2.1.big
      have hφ := hH.hmo
      have G := h.2.2
      have GG := h'.2.2
      have hll := hH.1
      have himl := thl_le n' (imgp l n)
      rw [hf] at hc hr
      refine hk_region fun K hK => runs_eval tab_ok ?_
      simp only [ev0, evA, evB, evP, fl, gp, tab, simprocAttr, reduceCtorEq, reduceIte, il_length, hll]
      refine fin_stop trivial (runs_call (hc) rfl rfl rfl (by simp only [dstOk, Nat.reduceLT]) (by repeat (first | exact trivial | constructor)) (runs_eval tab_ok ?_))
      simp only [ev0, evA, evB, evP, fl, gp, tab, simprocAttr, reduceCtorEq, reduceIte, il_length, hll]
      refine fin_stop trivial (runs_call (hr) rfl rfl rfl (by simp only [dstOk, Nat.reduceLT]) (by repeat (first | exact trivial | constructor)) (runs_eval tab_ok ?_))
      simp only [ev0, evA, evB, evP, fl, gp, tab, simprocAttr, reduceCtorEq, reduceIte, il_length, hll]
      refine fin_run ?_ (hK _ ?_) <;> clear hK <;> clear K
      · (first | exact trivial | omega | (simp only [In64] at *; omega) | (simp [In64] at *; omega) | (simp_all; done) | skip)
      refine qa ?_
      refine hk_cond rfl (fun hC2 => ?_) (fun hC2 => ?_)
      · cases hC2
      · (try simp only [nhs] at hC2)
        refine qh (qa (qm ?_))
        refine hk_region fun K hK => runs_eval tab_ok ?_
        simp only [ev0, evA, evB, evP, fl, gp, tab, simprocAttr, reduceCtorEq, reduceIte]
        refine fin_stop trivial (runs_call (image_ok h h' (by omega) (by omega) hH hf) rfl rfl rfl (by simp only [dstOk, Nat.reduceLT]) (by repeat (first | exact trivial | constructor)) (runs_eval tab_ok ?_))
        simp only [ev0, evA, evB, evP, fl, gp, tab, simprocAttr, reduceCtorEq, reduceIte]
        refine fin_run ?_ (hK _ ?_) <;> clear hK <;> clear K
        · (first | exact trivial | omega | (simp only [In64] at *; omega) | (simp [In64] at *; omega) | (simp_all; done) | skip)
        refine qa (qm (qm ?_))
        refine hk_region fun K hK => runs_eval tab_ok ?_
        simp only [ev0, evA, evB, evP, fl, gp, tab, simprocAttr, reduceCtorEq, reduceIte, lf_thl]
        refine fin_stop trivial (runs_call (listFault_c n' m' (thl n' (imgp l n)) (by have := thl_le n' (imgp l n); omega)) rfl rfl rfl (by simp only [dstOk, Nat.reduceLT]) (by repeat (first | exact trivial | constructor)) (runs_eval tab_ok ?_))
        simp only [ev0, evA, evB, evP, fl, gp, tab, simprocAttr, reduceCtorEq, reduceIte, lf_thl]
        refine fin_run ?_ (hK _ ?_) <;> clear hK <;> clear K
        · (first | exact trivial | omega | (simp only [In64] at *; omega) | (simp [In64] at *; omega) | (simp_all; done) | skip)
        refine qa ?_
        refine hk_cond rfl (fun hC3 => ?_) (fun hC3 => ?_)
        · cases hC3
        · (try simp only [nhs] at hC3)
          refine qh (qa (qm (qm ?_)))
          refine hk_region fun K hK => runs_eval tab_ok ?_
          simp only [ev0, evA, evB, evP, fl, gp, tab, simprocAttr, reduceCtorEq, reduceIte]
          refine fin_run trivial (hK _ ?_) <;> clear hK <;> clear K
          refine qa (ql ?_)
          refine hk_loop (ι := Nat) (fun a => ⟨162, [(2, .p (.list (il l))), (3, .ptr 0 0), (4, .ptr 1 0), (7, .p (.list (il (thl n' (imgp l n))))), (8, .ptr 2 0), (9, .p (.int .i64 a))], [.own [.p (.int .i64 n), .p (.list (il m))], .own [.p (.int .i64 n'), .p (.list (il m'))], .own [.p (.int .i64 0), .p (.int .i64 0)]]⟩) (fun a => a ≤ (thl n' (imgp l n)).length ∧ ∀ i j, i < a → j < (thl n' (imgp l n)).length → ∀ x y : Nat, (thl n' (imgp l n)).getD i 0 = x → (thl n' (imgp l n)).getD j 0 = y → op m' n' x y = op m' n' y x) (fun a => (thl n' (imgp l n)).length - a) 0 ⟨Nat.zero_le _, fun i j hi => absurd hi (Nat.not_lt_zero _)⟩ [0, 1, 2] (by simp only [leq, leA, ev0, evA, evB, evP, fl, gp, tab, simprocAttr, reduceCtorEq, reduceIte] <;> first | trivial | exact ⟨rfl, rfl⟩ | trace_state) fun a ha => ?_
          obtain ⟨ha1, ha2⟩ := ha
          refine qm (qm ?_)
          refine hk_region fun K hK => runs_eval tab_ok ?_
          simp only [ev0, evA, evB, evP, fl, gp, tab, simprocAttr, reduceCtorEq, reduceIte, il_length]
          refine fin_run trivial (hK _ ?_) <;> clear hK <;> clear K
          refine qa ?_
          refine hk_cond rfl (fun hC4 => ?_) (fun hC4 => ?_)
          · (try simp only [nhs] at hC4)
            have hal : a < (thl n' (imgp l n)).length := by omega
            obtain ⟨u, hu, hu2, hu3⟩ := thl_get hal
            refine qh (qa (qm (ql (qm ?_))))
            refine hk_region fun K hK => runs_eval tab_ok ?_
            simp only [ev0, evA, evB, evP, fl, gp, tab, simprocAttr, reduceCtorEq, reduceIte]
            refine fin_run trivial (hK _ ?_) <;> clear hK <;> clear K
            refine qa (ql ?_)
            refine hk_loop (ι := Nat) (fun b => ⟨162, [(2, .p (.list (il l))), (3, .ptr 0 0), (4, .ptr 1 0), (7, .p (.list (il (thl n' (imgp l n))))), (8, .ptr 2 0), (9, .p (.int .i64 a)), (10, .p (.int .i64 b))], [.own [.p (.int .i64 n), .p (.list (il m))], .own [.p (.int .i64 n'), .p (.list (il m'))], .own [.p (.int .i64 0), .p (.int .i64 0)]]⟩) (fun b => b ≤ (thl n' (imgp l n)).length ∧ ∀ j, j < b → ∀ y : Nat, (thl n' (imgp l n)).getD j 0 = y → op m' n' u y = op m' n' y u) (fun b => (thl n' (imgp l n)).length - b) 0 ⟨Nat.zero_le _, fun j hj => absurd hj (Nat.not_lt_zero _)⟩ [0, 1, 2] (by simp only [leq, leA, ev0, evA, evB, evP, fl, gp, tab, simprocAttr, reduceCtorEq, reduceIte] <;> first | trivial | exact ⟨rfl, rfl⟩ | trace_state) fun b hb => ?_
            obtain ⟨hb1, hb2⟩ := hb
            refine qm (qm ?_)
            refine hk_region fun K hK => runs_eval tab_ok ?_
            simp only [ev0, evA, evB, evP, fl, gp, tab, simprocAttr, reduceCtorEq, reduceIte, il_length]
            refine fin_run trivial (hK _ ?_) <;> clear hK <;> clear K
            refine qa ?_
            refine hk_cond rfl (fun hC5 => ?_) (fun hC5 => ?_)
            · (try simp only [nhs] at hC5)
              have hbl : b < (thl n' (imgp l n)).length := by omega
              obtain ⟨v, hv, hv2, hv3⟩ := thl_get hbl
              refine qh (qa (qm (ql (qm ?_))))
              refine hk_draw2 mixed fun K hK => runs2_eval tab_ok ?_
              simp only [evD, ev0, evA, evB, evP, fl, gp, tab, simprocAttr, reduceCtorEq, reduceIte, il_get hal, il_get hbl, hu3, hv3]
              refine fin2_stop ?_ (runs2_call (m_c h'.2.1 hu hv) rfl rfl rfl rfl (by simp only [dstOk, Nat.reduceLT]) (by repeat (first | exact trivial | constructor)) (runs2_eval tab_ok ?_))
              · exact ⟨⟨by omega, by omega⟩, by omega, by omega⟩
              simp only [evD, ev0, evA, evB, evP, fl, gp, tab, simprocAttr, reduceCtorEq, reduceIte, il_get hal, il_get hbl, hu3, hv3]
              refine fin2_stop ?_ (runs2_call (m_c h'.2.1 hv hu) rfl rfl rfl rfl (by simp only [dstOk, Nat.reduceLT]) (by repeat (first | exact trivial | constructor)) (runs2_eval tab_ok ?_))
              · exact ⟨⟨by omega, by omega⟩, by omega, by omega⟩
              simp only [evD, ev0, evA, evB, evP, fl, gp, tab, simprocAttr, reduceCtorEq, reduceIte, il_get hal, il_get hbl, hu3, hv3]
              refine fin2_run ?_ (hK _ _ (by first | kernel_rfl | rfl) ?_) <;> clear hK <;> clear K
              · (first | exact trivial | omega | (simp only [In64] at *; omega) | (simp [In64] at *; omega) | (simp_all; done) | skip)
              refine qa ?_
              refine hk_cond rfl (fun hC6 => ?_) (fun hC6 => ?_)
              · (try simp only [nhs] at hC6)
                refine qm ?_
                refine hk_region fun K hK => runs_eval tab_ok ?_
                simp only [ev0, evA, evB, evP, fl, gp, tab, simprocAttr, reduceCtorEq, reduceIte]
                refine fin_run trivial (hK _ ?_) <;> clear hK <;> clear K
                refine qa (qk (qe (qb (qb (qe (qe (qb (qb (qe (qb ?_))))))))))
                simp only [Tryd.results7, enA, ev0, evA, evB, evP, fl, gp, tab, simprocAttr, reduceCtorEq, reduceIte]
                all_goals (rfl)
              · (try simp only [nhs] at hC6)
                have huv : op m' n' u v = op m' n' v u := by omega
                refine qh (qd (qa ?_))
                refine hk_region fun K hK => runs_eval tab_ok ?_
                simp only [ev0, evA, evB, evP, fl, gp, tab, simprocAttr, reduceCtorEq, reduceIte]
                refine fin_run ?_ (hK _ ?_) <;> clear hK <;> clear K
                · (first | exact trivial | omega | (simp only [In64] at *; omega) | (simp [In64] at *; omega) | (simp_all; done) | skip)
                refine qa ?_
                refine ⟨b + 1, [0, 1, 2], ⟨by omega, fun j hj y hy => ?_⟩, by omega, ?_⟩
                · by_cases hjb : j = b
                  · rw [hjb, hv3] at hy
                    obtain rfl : v = y := by omega
                    exact huv
                  · exact hb2 j (by omega) y hy
                · simp only [leq, leA, ev0, evA, evB, evP, fl, gp, tab, simprocAttr, reduceCtorEq, reduceIte] <;> first | trivial | omega
            · (try simp only [nhs] at hC5)
              refine qj (qc (qc (qf (qd (qa ?_)))))
              refine hk_region fun K hK => runs_eval tab_ok ?_
              simp only [ev0, evA, evB, evP, fl, gp, tab, simprocAttr, reduceCtorEq, reduceIte]
              refine fin_run ?_ (hK _ ?_) <;> clear hK <;> clear K
              · (first | exact trivial | omega | (simp only [In64] at *; omega) | (simp [In64] at *; omega) | (simp_all; done) | skip)
              refine qa ?_
              refine ⟨a + 1, [0, 1, 2], ⟨by omega, fun i j hi hj x y hx hy => ?_⟩, by omega, ?_⟩
              · by_cases hia : i = a
                · rw [hia, hu3] at hx
                  obtain rfl : u = x := by omega
                  exact hb2 j (by omega) y hy
                · exact ha2 i j (by omega) hj x y hx hy
              · simp only [leq, leA, ev0, evA, evB, evP, fl, gp, tab, simprocAttr, reduceCtorEq, reduceIte] <;> first | trivial | omega
          · (try simp only [nhs] at hC4)
            have hcm : ∀ a b, a < n → b < n → op m' n' (hv l a) (hv l b) = op m' n' (hv l b) (hv l a) := fun x y hx hy => by
              have e1 : ((hv l x : Nat) : Int) ∈ thl n' (imgp l n) := mem_thl.2 ⟨_, hφ.lt x hx, imgp_iff.2 ⟨x, hx, rfl⟩, rfl⟩
              have e2 : ((hv l y : Nat) : Int) ∈ thl n' (imgp l n) := mem_thl.2 ⟨_, hφ.lt y hy, imgp_iff.2 ⟨y, hy, rfl⟩, rfl⟩
              obtain ⟨i, hi, h1⟩ := List.getElem_of_mem e1
              obtain ⟨j, hj, h2⟩ := List.getElem_of_mem e2
              exact ha2 i j (by omega) hj _ _ (by rw [← h1]; simp [List.getD, List.getElem?_eq_getElem hi]) (by rw [← h2]; simp [List.getD, List.getElem?_eq_getElem hj])
            obtain ⟨q, hq⟩ := gen_ex n (op m n) e (dnp n (op m n) e (fun _ => true) fun _ => true)
            have hds := gen_sub G hq
            have hdn := G.gen_nml (G.da_nml (fun _ => true) fun _ _ _ _ _ => rfl) hq
            have hQ := qtb_GT h hds hdn
            have hE := G.dco_eqv hds G.onp_sub
            have hab := abel_ok h q hq hds hdn
            have hsame : ∀ a b, a < n → b < n → dco n (op m n) q (onp e) a b = true → hv l a = hv l b := fun a b ha hb hr => thr_eq G GG hφ hcm hq ha hb hr
            have hwl := whl_len n (dco n (op m n) q (onp e))
            have hcl : (cst n (dco n (op m n) q (onp e))).length ≤ n := cstp_len _ _ _
            generalize hrr : dco n (op m n) q (onp e) = r at *
            have hrep : ∀ a, a < n → hv l (rpq n r (clq n r a)) = hv l a := fun a ha => by
              have h1 := clq_at hE ha
              obtain ⟨r1, r2, _, _⟩ := rpq_at hE h1.1
              exact hsame _ _ r1 ha ((clq_iff hE r1 ha).1 r2)
            have hcq : ∀ a, a < n → clq n r a < (cst n r).length := fun a ha => (clq_at hE ha).1
            have hQm : Hmo ((cst n r).length) (op (qtb n (op m n) r) ((cst n r).length)) n' (op m' n') (fun c => hv l (rpq n r c)) := by
              refine ⟨fun c hc => (hφ.lt _ (rpq_at hE hc).1), fun a b ha hb => ?_⟩
              rw [qtb_op ha hb]
              have r1 := (rpq_at hE ha).1
              have r2 := (rpq_at hE hb).1
              show hv l (rpq n r (clq n r (op m n (rpq n r a) (rpq n r b)))) = _
              rw [hrep _ (G.cl _ _ r1 r2), hφ.mul _ _ r1 r2]
            have hck := homCheck_c ((cst n r).length : Nat) (qtb n (op m n) r) n' m' (tbm (cst n r).length fun c => hv l (rpq n r c)) (by have := tbl_len (fun i j => ((qop (op m n) (clq n r) (rpq n r) i j : Nat) : Int)) ((cst n r).length); have := sq_le (show (cst n r).length ≤ 60 by omega); unfold qtb; omega) (by omega)
            rw [homf_of hQ h' (hom_of_hmo hQ.2.2 hQm)] at hck
            have hrz : (rgz (cst n r).length fun c => if (List.range 0).any (fun y => clq n r y == c) then ((hv l (rpq n r c) : Nat) : Int) else 0) = rgz (cst n r).length fun _ => 0 := rgz_congr fun a ha => by simp
            refine qj (qc (qc (qf (qa (qm ?_)))))
            refine hk_region fun K hK => runs_eval tab_ok ?_
            simp only [ev0, evA, evB, evP, fl, gp, tab, simprocAttr, reduceCtorEq, reduceIte]
            refine fin_stop trivial (runs_call (hab) rfl rfl rfl (by simp only [dstOk, Nat.reduceLT]) (by repeat (first | exact trivial | constructor)) (runs_eval tab_ok ?_))
            simp only [ev0, evA, evB, evP, fl, gp, tab, simprocAttr, reduceCtorEq, reduceIte]
            refine fin_run ?_ (hK _ ?_) <;> clear hK <;> clear K
            · (first | exact trivial | omega | (simp only [In64] at *; omega) | (simp [In64] at *; omega) | (simp_all; done) | skip)
            refine qa (qm (qm ?_))
            refine hk_region fun K hK => runs_eval tab_ok ?_
            simp only [ev0, evA, evB, evP, fl, gp, tab, simprocAttr, reduceCtorEq, reduceIte, il_length, hwl]
            refine fin_run ?_ (hK _ ?_) <;> clear hK <;> clear K
            · (first | exact trivial | omega | (simp only [In64] at *; omega) | (simp [In64] at *; omega) | (simp_all; done) | skip)
            refine qa ?_
            refine hk_cond rfl (fun hC7 => ?_) (fun hC7 => ?_)
            · cases hC7
            · (try simp only [nhs] at hC7)
              refine qh (qa (qm ?_))
              refine hk_region fun K hK => runs_eval tab_ok ?_
              simp only [ev0, evA, evB, evP, fl, gp, tab, simprocAttr, reduceCtorEq, reduceIte, makeSliceA.eq_def, rgz_new]
              refine fin_run ?_ (hK _ ?_) <;> clear hK <;> clear K
              · exact ⟨by omega, by omega, by omega, by omega⟩
              refine qa (qm (qm ?_))
              refine hk_region fun K hK => runs_eval tab_ok ?_
              simp only [ev0, evA, evB, evP, fl, gp, tab, simprocAttr, reduceCtorEq, reduceIte]
              refine fin_run trivial (hK _ ?_) <;> clear hK <;> clear K
              refine qa (ql ?_)
              refine hk_loop (ι := Nat) (fun x => ⟨162, [(2, .p (.list (il l))), (3, .ptr 0 0), (4, .ptr 1 0), (11, .ptr 2 0), (12, .p (.list (il (whl n r)))), (13, .sl 3 0 (cst n r).length), (14, .p (.int .i64 x))], [.own [.p (.int .i64 n), .p (.list (il m))], .own [.p (.int .i64 n'), .p (.list (il m'))], .own [.p (.int .i64 ((cst n r).length : Nat)), .p (.list (il (qtb n (op m n) r)))], .own (ol (rgz (cst n r).length fun c => if (List.range x).any (fun y => clq n r y == c) then ((hv l (rpq n r c) : Nat) : Int) else 0))]⟩) (fun x => x ≤ n) (fun x => n - x) 0 (Nat.zero_le _) [0, 1, 3, 4] (by simp only [leq, leA, ev0, evA, evB, evP, fl, gp, tab, simprocAttr, reduceCtorEq, reduceIte] <;> first | trivial | exact ⟨rfl, rfl⟩ | (rw [hrz, List.take_of_length_le (by rw [rgz_len]; exact Nat.le_refl _)]; done) | (simp [rgz_len]; done) | trace_state) fun x hx => ?_
              have hrl := rgz_len ((cst n r).length) fun c => if (List.range x).any (fun y => clq n r y == c) then ((hv l (rpq n r c) : Nat) : Int) else 0
              refine qm (qm ?_)
              refine hk_region fun K hK => runs_eval tab_ok ?_
              simp only [ev0, evA, evB, evP, fl, gp, tab, simprocAttr, reduceCtorEq, reduceIte]
              refine fin_run ?_ (hK _ ?_) <;> clear hK <;> clear K
              · (first | exact trivial | omega | (simp only [In64] at *; omega) | (simp [In64] at *; omega) | (simp_all; done) | skip)
              refine qa ?_
              refine hk_cond rfl (fun hC8 => ?_) (fun hC8 => ?_)
              · (try simp only [nhs] at hC8)
                have hxn : x < n := by omega
                have hcx := hcq x hxn
                have hwx := whl_get hE hxn
                obtain ⟨ev, _⟩ := hH.2.1 x hxn
                have hse : (rgz (cst n r).length fun c => if (List.range x).any (fun y => clq n r y == c) then ((hv l (rpq n r c) : Nat) : Int) else 0).set (clq n r x) ((hv l x : Nat) : Int) = (rgz (cst n r).length fun c => if (List.range (x + 1)).any (fun y => clq n r y == c) then ((hv l (rpq n r c) : Nat) : Int) else 0) := by
                  rw [rgz_set]
                  refine rgz_congr fun c hc => ?_
                  by_cases e1 : c = clq n r x
                  · rw [if_pos e1, if_pos (by rw [e1, List.any_eq_true]; exact ⟨x, List.mem_range.2 (by omega), by simp⟩), e1, hrep x hxn]
                  · rw [if_neg e1]
                    have : (List.range (x + 1)).any (fun y => clq n r y == c) = (List.range x).any (fun y => clq n r y == c) := by
                      rw [List.range_succ, List.any_append]
                      have : (clq n r x == c) = false := by simpa using Ne.symm e1
                      simp [this]
                    rw [this]
                refine qh (qa (qm (ql (qm (qm ?_)))))
                refine hk_draw mixed (by kernel_rfl) fun K hK => runs_eval tab_ok ?_
                simp only [ev0, evA, evB, evP, fl, gp, tab, simprocAttr, reduceCtorEq, reduceIte, il_get (show x < (whl n r).length by omega), hwx, decide_eq_false (show ¬ ((clq n r x : Nat) : Int) < 0 by omega), decide_eq_false (show ¬ ((clq n r x : Nat) : Int) ≥ ((cst n r).length : Nat) by omega)]
                refine fin_run ?_ (hK _ ?_) <;> clear hK <;> clear K
                · (first | exact trivial | omega | (simp only [In64] at *; omega) | (simp [In64] at *; omega) | (simp_all; done) | skip)
                refine qa ?_
                refine hk_cond rfl (fun hC9 => ?_) (fun hC9 => ?_)
                · cases hC9
                · (try simp only [nhs] at hC9)
                  refine qh (qa ?_)
                  refine hk_draw mixed (by kernel_rfl) fun K hK => runs_eval tab_ok ?_
                  simp only [ev0, evA, evB, evP, fl, gp, tab, simprocAttr, reduceCtorEq, reduceIte, il_get (show x < (whl n r).length by omega), hwx, il_get (show x < l.length by omega), ev, ol_set, hse]
                  refine fin_run ?_ (hK _ ?_) <;> clear hK <;> clear K
                  · (first | exact trivial | omega | (simp only [In64] at *; omega) | (simp [In64] at *; omega) | (simp_all; done) | skip)
                  refine qd (qa ?_)
                  refine hk_region fun K hK => runs_eval tab_ok ?_
                  simp only [ev0, evA, evB, evP, fl, gp, tab, simprocAttr, reduceCtorEq, reduceIte]
                  refine fin_run ?_ (hK _ ?_) <;> clear hK <;> clear K
                  · (first | exact trivial | omega | (simp only [In64] at *; omega) | (simp [In64] at *; omega) | (simp_all; done) | skip)
                  refine qa ?_
                  refine ⟨x + 1, [0, 1, 2, 3], by omega, by omega, ?_⟩
                  simp only [leq, leA, ev0, evA, evB, evP, fl, gp, tab, simprocAttr, reduceCtorEq, reduceIte] <;> first | trivial | omega | trace_state
              · (try simp only [nhs] at hC8)
                obtain rfl : n = x := by omega
                have hrow : (rgz (cst n r).length fun c => if (List.range n).any (fun y => clq n r y == c) then ((hv l (rpq n r c) : Nat) : Int) else 0) = (tbm (cst n r).length fun c => hv l (rpq n r c)) := by
                  unfold rgz tbm
                  refine List.map_congr_left fun c hc => ?_
                  have hc := List.mem_range.1 hc
                  obtain ⟨r1, r2, _, _⟩ := rpq_at hE hc
                  rw [if_pos (by rw [List.any_eq_true]; exact ⟨rpq n r c, List.mem_range.2 r1, by simp [r2]⟩)]
                rw [hrow]
                have htl := tbm_len ((cst n r).length) fun c => hv l (rpq n r c)
                refine qj (qc (qc (qf (qa (qm (qm ?_))))))
                refine hk_region fun K hK => runs_eval tab_ok ?_
                simp only [ev0, evA, evB, evP, fl, gp, tab, simprocAttr, reduceCtorEq, reduceIte]
                refine fin_run trivial (hK _ ?_) <;> clear hK <;> clear K
                refine qa (ql ?_)
                refine hk_loop (ι := Nat) (fun x => ⟨162, [(2, .p (.list (il l))), (3, .ptr 0 0), (4, .ptr 1 0), (11, .ptr 2 0), (12, .p (.list (il (whl n r)))), (13, .sl 3 0 (tbm (cst n r).length fun c => hv l (rpq n r c)).length), (15, .p (.int .i64 x))], [.own [.p (.int .i64 n), .p (.list (il m))], .own [.p (.int .i64 n'), .p (.list (il m'))], .own [.p (.int .i64 ((cst n r).length : Nat)), .p (.list (il (qtb n (op m n) r)))], .own (ol (tbm (cst n r).length fun c => hv l (rpq n r c)))]⟩) (fun x => x ≤ n) (fun x => n - x) 0 (Nat.zero_le _) [0, 1, 2, 3] (by simp only [leq, leA, ev0, evA, evB, evP, fl, gp, tab, simprocAttr, reduceCtorEq, reduceIte] <;> first | trivial | exact htl.symm | exact congrArg _ htl.symm | exact ⟨rfl, rfl⟩ | trace_state) fun x hx => ?_
                refine qm (qm ?_)
                refine hk_region fun K hK => runs_eval tab_ok ?_
                simp only [ev0, evA, evB, evP, fl, gp, tab, simprocAttr, reduceCtorEq, reduceIte]
                refine fin_run ?_ (hK _ ?_) <;> clear hK <;> clear K
                · (first | exact trivial | omega | (simp only [In64] at *; omega) | (simp [In64] at *; omega) | (simp_all; done) | skip)
                refine qa ?_
                refine hk_cond rfl (fun hC10 => ?_) (fun hC10 => ?_)
                · (try simp only [nhs] at hC10)
                  have hxn : x < n := by omega
                  have hcx := hcq x hxn
                  have hwx := whl_get hE hxn
                  obtain ⟨ev, _⟩ := hH.2.1 x hxn
                  have htg := tbm_get (φ := fun c => hv l (rpq n r c)) hcx
                  simp only [hrep x hxn] at htg
                  refine qh (qa (qm (ql (qm ?_))))
                  refine hk_draw mixed (by kernel_rfl) fun K hK => runs_eval tab_ok ?_
                  simp only [ev0, evA, evB, evP, fl, gp, tab, simprocAttr, reduceCtorEq, reduceIte, il_get (show x < (whl n r).length by omega), hwx, il_get (show x < l.length by omega), ev, ol_get (show clq n r x < (tbm (cst n r).length fun c => hv l (rpq n r c)).length by omega), htg]
                  refine fin_run ?_ (hK _ ?_) <;> clear hK <;> clear K
                  · (first | exact trivial | omega | (simp only [In64] at *; omega) | (simp [In64] at *; omega) | (simp_all; done) | skip)
                  refine qa ?_
                  refine hk_cond rfl (fun hC11 => ?_) (fun hC11 => ?_)
                  · (try simp only [nhs] at hC11)
                    simp at hC11
                  · (try simp only [nhs] at hC11)
                    refine qh (qd (qa ?_))
                    refine hk_region fun K hK => runs_eval tab_ok ?_
                    simp only [ev0, evA, evB, evP, fl, gp, tab, simprocAttr, reduceCtorEq, reduceIte]
                    refine fin_run ?_ (hK _ ?_) <;> clear hK <;> clear K
                    · (first | exact trivial | omega | (simp only [In64] at *; omega) | (simp [In64] at *; omega) | (simp_all; done) | skip)
                    refine qa ?_
                    refine ⟨x + 1, [0, 1, 2, 3], by omega, by omega, ?_⟩
                    simp only [leq, leA, ev0, evA, evB, evP, fl, gp, tab, simprocAttr, reduceCtorEq, reduceIte] <;> first | trivial | omega
                · (try simp only [nhs] at hC10)
                  refine qj (qc (qc (qf (qa (qm ?_)))))
                  refine hk_seal 13 3 rfl rfl ?_
                  refine hk_region fun K hK => runs_eval tab_ok ?_
                  simp only [ev0, evA, evB, evP, fl, gp, tab, simprocAttr, reduceCtorEq, reduceIte]
                  refine fin_stop trivial (runs_call (hck) rfl rfl rfl (by simp only [dstOk, Nat.reduceLT]) (by repeat (first | exact trivial | constructor)) (runs_eval tab_ok ?_))
                  simp only [ev0, evA, evB, evP, fl, gp, tab, simprocAttr, reduceCtorEq, reduceIte]
                  refine fin_run ?_ (hK _ ?_) <;> clear hK <;> clear K
                  · (first | exact trivial | omega | (simp only [In64] at *; omega) | (simp [In64] at *; omega) | (simp_all; done) | skip)
                  refine qa (qk ?_)
                  simp only [Tryd.results7, enA, ev0, evA, evB, evP, fl, gp, tab, simprocAttr, reduceCtorEq, reduceIte]
                  all_goals (trace_state)
    · refine hk_region fun K hK => runs_eval tab_ok ?_
      simp only [ev0, evA, evB, evP, fl, gp, tab, simprocAttr, reduceCtorEq, reduceIte, decide_eq_false hf, Bool.not_false]
      refine fin_stop trivial (runs_call (hc) rfl rfl rfl (by simp only [dstOk, Nat.reduceLT]) (by repeat (first | exact trivial | constructor)) (runs_eval tab_ok ?_))
      simp only [ev0, evA, evB, evP, fl, gp, tab, simprocAttr, reduceCtorEq, reduceIte, decide_eq_false hf, Bool.not_false]
      refine fin_run ?_ (hK _ ?_) <;> clear hK <;> clear K
      · (first | exact trivial | omega | (simp only [In64] at *; omega) | (simp [In64] at *; omega) | (simp_all; done) | skip)
      refine qa ?_
      refine hk_cond rfl (fun hC2 => ?_) (fun hC2 => ?_)
      · refine qm ?_
        refine hk_region fun K hK => runs_eval tab_ok ?_
        simp only [ev0, evA, evB, evP, fl, gp, tab, simprocAttr, reduceCtorEq, reduceIte]
        refine fin_run trivial (hK _ ?_) <;> clear hK <;> clear K
        refine qa (qk (qb ?_))
        simp only [Tryd.results7, enA, ev0, evA, evB, evP, fl, gp, tab, simprocAttr, reduceCtorEq, reduceIte]
        all_goals ((first | exact rfl | exact ⟨rfl, rfl⟩ | exact ⟨rfl, rfl, rfl⟩ | exact ⟨trivial, rfl⟩ | exact ⟨Nat.le_refl _, rfl⟩ | trivial | (simp; done)))
      · cases hC2
end Go.Proofs.YtjbfkdaodfdpcaaDoor

/-
  What the listed package-level variable gives a walk: a table of numbers. Conditions: none; written by a program of this repo.
-/
set_option linter.all false
namespace Go.Proofs.YtjbfkdaodfdpcaaDoor
open Go.Pv Go.ChangeShapes Go.WideShapes Go.ChangeAt Go.WideElems Go.RowKit

theorem own : ownKnob Tryd.prog.godebug = none := by kernel_rfl
theorem laidOut : laidOutB Tryd.prog = true := by kernel_rfl
theorem gG : Tryd.prog.globalNamed "math/bits.deBruijn64tab" = some 0 := by kernel_rfl
theorem tG : (Tryd.prog.globals[0]?).map (·.type) = some 145 := by kernel_rfl
theorem cG : Tryd.prog.cellsOf 5 = 1 := by kernel_rfl
/-- The door's own heap meets the condition. -/
theorem door_met (os : Os) (args : Array Value) : laidMetH Tryd.prog [("math/bits.deBruijn64tab", Rows.laid_math_bits_deBruijn64tab)] ((World.doorLaid Tryd.prog 4000 os).forCall (fun _ _ => 0) ⟨#[], args, []⟩).memory :=
  laidMetH_of_parts3 (fuel := 8) (laidMet_of_run' 8 (by kernel_rfl) (by kernel_rfl)) (by kernel_rfl) (by kernel_rfl)

def convD : DataW Unit → PV
  | .lit (.int k n) => .int k n
  | _ => .nil
def datum : List (DataW Unit) → List PV := List.map convD
theorem glob_datum : (match (Rows.laid_math_bits_deBruijn64tab : DataW Unit) with | .agg l => datum l | _ => []) = glob0 := rfl

theorem laid_ok {W : World} (h : laidMetH Tryd.prog [("math/bits.deBruijn64tab", Rows.laid_math_bits_deBruijn64tab)] W) : LaidW (fun b => b < W.heap.size) W := by
  refine ⟨fun b h => h, fun g l hg => ?_⟩
  have hg2 : g = 0 ∧ l = glob0 := by
    unfold gv at hg
    by_cases e : g = 0
    · subst e; exact ⟨rfl, (Option.some.inj hg).symm⟩
    · have : (g == 0) = false := by simpa using e
      rw [this] at hg; simp at hg
  obtain ⟨rfl, rfl⟩ := hg2
  rw [MakeChecks.laidMetH_plain _ _ _ (by kernel_rfl)] at h
  obtain ⟨ps, ⟨g0, t0, cs0, f0, p0, q0, hg0, ht0, hv0, hd0, _, _⟩, _, _⟩ := h
  obtain rfl := Option.some.inj (gG.symm.trans hg0)
  obtain rfl := Option.some.inj (tG.symm.trans ht0)
  obtain ⟨xs, m1, rfl, hx1, hlen, hn3, hel⟩ := DataW.trod_array Tryd.underlying145 hd0
  have hd1 : Rows.laid_math_bits_deBruijn64tab = DataW.agg (xs.map (·.1)) := congrArg Prod.fst hx1
  have hgl : glob0 = datum (xs.map (·.1)) := by
    rw [← glob_datum, hd1]
  have key : ∀ c (h : c < glob0.length), W.cell? ⟨0, 0 + c, none⟩ = some ((cs0[c]?).getD undef) ∧ Reads (fun b => b < W.heap.size) W glob0[c] ((cs0[c]?).getD undef) := by
    intro c hc
    have hc2 : c < 64 := Nat.lt_of_lt_of_le hc (by decide)
    have hcx : c < xs.length := by omega
    have h1 := hel c hc2
    rw [List.getElem?_eq_getElem hcx] at h1
    obtain ⟨k, e1, e2, _⟩ := DataW.trod_int Tryd.underlying5 h1
    rw [cG] at e1
    have e3 : cs0.toList[c]? = some (.int .u8 k) := by
      have := congrArg (fun l => l[0]?) e1
      simpa [List.getElem?_take, List.getElem?_drop] using this
    have e4 : cs0[c]? = some (.int .u8 k) := by simpa using e3
    have e5 : glob0[c] = .int .u8 k := by
      have : glob0[c]? = (datum (xs.map (·.1)))[c]? := by rw [hgl]
      rw [List.getElem?_eq_getElem hc] at this
      simp only [datum, List.getElem?_map, List.getElem?_eq_getElem hcx, Option.map_some, Option.some.injEq] at this
      exact this.trans (by rw [e2]; rfl)
    refine ⟨?_, ?_⟩
    · rw [e4, Nat.zero_add, World.var?_cell gG hv0 c, e4]; rfl
    · rw [e4]
      exact e5 ▸ (Reads.int .u8 k)
  refine .ptr _ _ _ (fun c => (cs0[c]?).getD undef) ?_ (fun c hc => (key c hc).1) fun c hc => (key c hc).2
  have := (key 0 (by decide)).1
  unfold World.cell? at this
  rcases Nat.lt_or_ge 0 W.heap.size with h | h
  · exact h
  · exfalso
    rw [Array.getElem?_eq_none h] at this
    simp at this
end Go.Proofs.YtjbfkdaodfdpcaaDoor
