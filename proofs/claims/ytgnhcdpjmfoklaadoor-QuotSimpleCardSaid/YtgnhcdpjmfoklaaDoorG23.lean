
/-
  Nilpotent groups; classes of a quotient; the quotient by commutators. Conditions: none.
-/
import Derived.Test.YtgnhcdpjmfoklaaDoorG20
import Derived.Test.YtgnhcdpjmfoklaaDoorG21
set_option linter.all false
namespace Go.Proofs.YtgnhcdpjmfoklaaDoor
open Go.Pv

/-- The last place at which something is so. -/
theorem last_ex {K : Nat} (P : Nat → Prop) (h0 : P 0) (hK : ¬ P K) : ∃ k, k < K ∧ P k ∧ ¬ P (k + 1) := by
  induction K with
  | zero => exact absurd h0 hK
  | succ K ih =>
    by_cases h : P K
    · exact ⟨K, by omega, h, hK⟩
    · obtain ⟨k, k1, k2, k3⟩ := ih h
      exact ⟨k, by omega, k2, k3⟩

section
variable {n : Nat} {f : Nat → Nat → Nat} {e : Nat}
theorem Grp.cmt_iv (G : Grp n f e) {a b : Nat} (ha : a < n) (hb : b < n) : iv n f e (cmt n f e a b) = cmt n f e b a := by
  have ia := G.iv_lt ha
  have ib := G.iv_lt hb
  unfold cmt
  rw [G.iv_prod (G.cl _ _ ia ib) (G.cl _ _ ha hb), G.iv_prod ia ib, G.iv_prod ha hb, G.iv_iv ha, G.iv_iv hb]

/-- In what is nilpotent a subgroup that is not all is less than its normaliser. -/
theorem Grp.nil_grow (G : Grp n f e) {nl : (Nat → Bool) → Nat → Bool} (hl : ∀ p a, a < n → (nl p a = true ↔ Gen n f e (dnp n f e p fun _ => true) a)) {K : Nat} (hK : ∀ a, a < n → itr nl (fun _ => true) K a = true → a = e) {s : Nat → Bool} (hs : Sub n f e s) (hne : ¬ ∀ a, a < n → s a = true) : (mem n s).length < (mem n (nzr n f e s)).length := by
  obtain ⟨k, k1, k2, k3⟩ := last_ex (K := K) (fun k => ¬ ∀ a, a < n → itr nl (fun _ => true) k a = true → s a = true) (fun h => hne fun a ha => h a ha rfl) (fun h => h fun a ha h1 => by rw [hK a ha h1]; exact hs.one)
  have k4 : ∀ a, a < n → itr nl (fun _ => true) (k + 1) a = true → s a = true := Classical.not_not.1 k3
  obtain ⟨x, hx⟩ := Classical.not_forall.1 k2
  have hx1 : x < n := Classical.byContradiction fun h => hx fun h' => absurd h' h
  have hx2 : itr nl (fun _ => true) k x = true := Classical.byContradiction fun h => hx fun _ h' => absurd h' h
  have hx3 : ¬ s x = true := fun h => hx fun _ _ => h
  obtain ⟨hT, _⟩ := G.fall hl G.da_nml k
  -- what is conjugated by a thing of the k-th set stays
  have key : ∀ z, z < n → itr nl (fun _ => true) k z = true → ∀ y, y < n → s y = true → s (cjr n f e y z) = true := fun z hz hTz y hy hsy => by
    have h1 : itr nl (fun _ => true) (k + 1) (cmt n f e z y) = true := (hl _ _ (G.cmt_lt hz hy)).2 (.mem G (G.cmt_lt hz hy) (dnp_iff.2 ⟨z, y, hz, hy, hTz, rfl, rfl⟩))
    have h2 := hs.inv _ (G.cmt_lt hz hy) (k4 _ (G.cmt_lt hz hy) h1)
    rw [G.cmt_iv hz hy] at h2
    have h3 := hs.mul _ _ hy (G.cmt_lt hy hz) hsy h2
    rwa [G.cmt_cjr hy hz, ← G.assoc _ _ _ hy (G.iv_lt hy) (G.cjr_lt hy hz), G.mul_iv hy, G.one_l _ (G.cjr_lt hy hz)] at h3
  have ix := G.iv_lt hx1
  have hnx : nzr n f e s x = true := nzr_iff.2 fun y hy => by
    rw [G.shf_back hx1 hy, Bool.eq_iff_iff]
    constructor
    · intro h1
      have := key x hx1 hx2 _ (G.cjr_lt hy ix) h1
      rwa [G.cjr_vi hy hx1] at this
    · intro h1; exact key _ ix (hT.inv x hx1 hx2) y hy h1
  refine mem_lt (fun a ha h => G.nzr_in hs ha h) fun h => hx3 ?_
  rw [h x hx1]; exact hnx
/-- Each normal subgroup of more than the one has something of the centre. -/
theorem Grp.nil_centre (G : Grp n f e) {nl : (Nat → Bool) → Nat → Bool} (hl : ∀ p a, a < n → (nl p a = true ↔ Gen n f e (dnp n f e p fun _ => true) a)) {K : Nat} (hK : ∀ a, a < n → itr nl (fun _ => true) K a = true → a = e) {c : Nat → Bool} (hs : Sub n f e c) (hn : Nml n f e c) (hne : ¬ (mem n c).length = 1) : 1 < (mem n fun a => c a && zen n f a).length := by
  have h0 : ∃ x, x < n ∧ c x = true ∧ x ≠ e := by
    refine Classical.byContradiction fun h => hne (mem_one G.el fun a ha => ⟨fun h1 => Classical.byContradiction fun h2 => h ⟨a, ha, h1, h2⟩, fun h1 => by rw [h1]; exact hs.one⟩)
  obtain ⟨k, k1, ⟨x, x1, x2, x3, x4⟩, k3⟩ := last_ex (K := K) (fun k => ∃ x, x < n ∧ c x = true ∧ x ≠ e ∧ itr nl (fun _ => true) k x = true) (by obtain ⟨x, x1, x2, x3⟩ := h0; exact ⟨x, x1, x2, x3, rfl⟩) (by rintro ⟨x, x1, _, x3, x4⟩; exact x3 (hK x x1 x4))
  have hz : zen n f x = true := zen_iff.2 fun b hb => by
    refine (G.cmt_one x1 hb).1 (Classical.byContradiction fun h => k3 ⟨_, G.cmt_lt x1 hb, G.cmt_in hs hn x1 hb x2, h, ?_⟩)
    exact (hl _ _ (G.cmt_lt x1 hb)).2 (.mem G (G.cmt_lt x1 hb) (dnp_iff.2 ⟨x, b, x1, hb, x4, rfl, rfl⟩))
  have hnd : [e, x].Nodup := by simp; exact fun h => x3 h.symm
  have := List.Nodup.length_le_of_subset hnd (l₂ := mem n fun a => c a && zen n f a) fun z hz' => by
    simp only [List.mem_cons, List.not_mem_nil, or_false] at hz'
    rcases hz' with rfl | rfl
    · exact mem_mem.2 ⟨G.el, by rw [hs.one, G.zen_sub.one]; rfl⟩
    · exact mem_mem.2 ⟨x1, by rw [x2, hz]; rfl⟩
  exact (by simpa using this : 2 ≤ (mem n fun a => c a && zen n f a).length)

/-! ### Classes of a quotient -/

theorem lead_le {k : Nat} {r1 r2 : Nat → Nat → Bool} (E1 : Eqv n r1) (E2 : Eqv k r2) (rep : Nat → Nat) (hr : ∀ i, i < k → rep i < n) (h : ∀ i j, i < k → j < k → r1 (rep i) (rep j) = true → r2 i j = true) : (mem k (lead r2)).length ≤ (mem n (lead r1)).length := by
  have hex : ∀ i, ∃ x, i < k → x < n ∧ lead r1 x = true ∧ r1 x (rep i) = true := fun i => by
    by_cases hi : i < k
    · obtain ⟨x, h1, h2, h3⟩ := E1.least (hr i hi)
      exact ⟨x, fun _ => ⟨h1, h2, h3⟩⟩
    · exact ⟨0, fun h => absurd h hi⟩
  obtain ⟨g, hg⟩ := Classical.axiomOfChoice hex
  rw [← List.length_map (f := g) (as := mem k (lead r2))]
  refine List.Nodup.length_le_of_subset (nodup_map (List.nodup_range.filter _) fun i hi j hj he => ?_) fun x hx => ?_
  · obtain ⟨i1, i2⟩ := mem_mem.1 hi
    obtain ⟨j1, j2⟩ := mem_mem.1 hj
    obtain ⟨a1, a2, a3⟩ := hg i i1
    obtain ⟨b1, b2, b3⟩ := hg j j1
    rw [← he] at b3
    exact E2.lead_eq i1 j1 i2 j2 (h i j i1 j1 (E1.trans _ _ _ (hr i i1) a1 (hr j j1) (E1.symm _ _ a1 (hr i i1) a3) b3))
  · obtain ⟨i, hi, rfl⟩ := List.mem_map.1 hx
    obtain ⟨i1, i2⟩ := mem_mem.1 hi
    exact mem_mem.2 ⟨(hg i i1).1, (hg i i1).2.1⟩
theorem Qm.iv {k : Nat} {cl rep : Nat → Nat} (Q : Qm n f k cl rep) (G : Grp n f e) {a : Nat} (ha : a < n) : iv k (qop f cl rep) (cl e) (cl a) = cl (Go.Proofs.YtgnhcdpjmfoklaaDoor.iv n f e a) :=
  ((Q.grp G).iv_unique (Q.lt a ha) (Q.lt _ (G.iv_lt ha)) (.inl (by rw [Q.op ha (G.iv_lt ha), G.mul_iv ha]))).symm
theorem Qm.cjb {k : Nat} {cl rep : Nat → Nat} (Q : Qm n f k cl rep) (G : Grp n f e) {x y : Nat} (hx : x < n) (hy : y < n) (h : cjb n f e x y = true) : cjb k (qop f cl rep) (cl e) (cl x) (cl y) = true := by
  obtain ⟨a, ha, rfl⟩ := cjb_iff.1 h
  have ia := G.iv_lt ha
  refine cjb_iff.2 ⟨cl a, Q.lt a ha, ?_⟩
  rw [Q.iv G ha, Q.op ia hx, Q.op (G.cl _ _ ia hx) ha]
/-- A quotient has no more classes. -/
theorem Qm.classes {k : Nat} {cl rep : Nat → Nat} (Q : Qm n f k cl rep) (G : Grp n f e) : (mem k (lead (Go.Proofs.YtgnhcdpjmfoklaaDoor.cjb k (qop f cl rep) (cl e)))).length ≤ (mem n (lead (Go.Proofs.YtgnhcdpjmfoklaaDoor.cjb n f e))).length :=
  lead_le G.cjb_eqv (Q.grp G).cjb_eqv rep Q.rlt fun i j hi hj h => by
    have := Q.cjb G (Q.rlt i hi) (Q.rlt j hj) h
    rwa [Q.at_ i hi, Q.at_ j hj] at this
/-- The quotient by what commutators make is abelian. -/
theorem Grp.abel_cl (G : Grp n f e) {d : Nat → Bool} (hd : Sub n f e d) (hc : ∀ a b, a < n → b < n → d (cmt n f e a b) = true) {a b : Nat} (ha : a < n) (hb : b < n) : dco n f d (onp e) (f b a) (f a b) = true := by
  have ia := G.iv_lt ha
  have ib := G.iv_lt hb
  rw [G.rco_iff (G.cl _ _ hb ha) (G.cl _ _ ha hb), G.iv_prod hb ha]
  have := hc _ _ ia ib
  unfold cmt at this
  rwa [G.iv_iv ha, G.iv_iv hb] at this
end
end Go.Proofs.YtgnhcdpjmfoklaaDoor
