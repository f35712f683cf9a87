
/-
  Series of subgroups: commutators of commutators, from all on; what commutes up to the last one, from the one on. Conditions: none.
-/
import Derived.Test.YtjikchbmkodgfaaDoorG19
set_option linter.all false
namespace Go.Proofs.YtjikchbmkodgfaaDoor
open Go.Pv

/-- Commutators of two sets. -/
def dnp (n : Nat) (f : Nat → Nat → Nat) (e : Nat) (p q : Nat → Bool) (x : Nat) : Bool := decide (∃ a, a < n ∧ p a = true ∧ ∃ b, b < n ∧ q b = true ∧ cmt n f e a b = x)
/-- What commutes with all, up to a set. -/
def unx (n : Nat) (f : Nat → Nat → Nat) (e : Nat) (p : Nat → Bool) (a : Nat) : Bool := decide (∀ b, b < n → p (cmt n f e a b) = true)
def itr (nx : (Nat → Bool) → Nat → Bool) (p : Nat → Bool) : Nat → Nat → Bool
  | 0 => p
  | k + 1 => nx (itr nx p k)
/-- A series comes to its end at K. -/
structure Stp (n : Nat) (T : Nat → Nat → Bool) (K : Nat) : Prop where
  eq : ∀ a, a < n → T (K + 1) a = T K a
  ne : ∀ j, j < K → ¬ ∀ a, a < n → T (j + 1) a = T j a

theorem mem_lt {n : Nat} {p q : Nat → Bool} (h : ∀ a, a < n → q a = true → p a = true) (hne : ¬ ∀ a, a < n → q a = p a) : (mem n q).length < (mem n p).length := by
  have h1 : mem n q = (mem n p).filter q := by
    unfold mem
    rw [List.filter_filter]
    refine List.filter_congr fun a ha => ?_
    have := h a (List.mem_range.1 ha)
    cases hq : q a with
    | false => simp
    | true => simp [this hq]
  have h2 : (mem n q).Sublist (mem n p) := by rw [h1]; exact List.filter_sublist
  rcases Nat.lt_or_eq_of_le h2.length_le with h3 | h3
  · exact h3
  · exfalso
    have h4 := h2.eq_of_length h3
    refine hne fun a ha => ?_
    rw [Bool.eq_iff_iff]
    have : a ∈ mem n q ↔ a ∈ mem n p := by rw [h4]
    rw [mem_mem, mem_mem] at this
    exact ⟨fun h => (this.1 ⟨ha, h⟩).2, fun h => (this.2 ⟨ha, h⟩).2⟩

theorem stop_ex {n : Nat} {T : Nat → Nat → Bool} (c : Nat → Nat) (hc : ∀ k, (¬ ∀ a, a < n → T (k + 1) a = T k a) → c (k + 1) < c k) : ∃ K, K ≤ c 0 ∧ Stp n T K := by
  cases hf : fst' (fun k => decide (∀ a, a < n → T (k + 1) a = T k a)) (c 0 + 1) with
  | some K =>
    obtain ⟨h1, h2, h3⟩ := fst_spec hf
    exact ⟨K, by omega, ⟨of_decide_eq_true h2, fun j hj => of_decide_eq_false (h3 j hj)⟩⟩
  | none =>
    exfalso
    have h := fst_spec0 hf
    have key : ∀ k, k ≤ c 0 + 1 → c k + k ≤ c 0 := by
      intro k
      induction k with
      | zero => intro _; omega
      | succ k ih =>
        intro hk
        have h1 := hc k (of_decide_eq_false (h k (by omega)))
        have h2 := ih (by omega)
        omega
    have := key (c 0 + 1) (by omega)
    omega

theorem Stp.after {n : Nat} {nx : (Nat → Bool) → Nat → Bool} {p : Nat → Bool} {K : Nat} (hx : ∀ p q : Nat → Bool, (∀ a, a < n → p a = q a) → ∀ a, a < n → nx p a = nx q a) (h : Stp n (itr nx p) K) : ∀ j a, a < n → itr nx p (K + j) a = itr nx p K a
  | 0, a, ha => rfl
  | j + 1, a, ha => by
    have h1 := hx _ _ (fun b hb => Stp.after hx h j b hb) a ha
    exact h1.trans (h.eq a ha)

section
variable {n : Nat} {f : Nat → Nat → Nat} {e : Nat}
theorem dnp_iff {p q : Nat → Bool} {x : Nat} : dnp n f e p q x = true ↔ ∃ a b, a < n ∧ b < n ∧ p a = true ∧ q b = true ∧ cmt n f e a b = x := by
  unfold dnp; rw [decide_eq_true_iff]
  exact ⟨fun ⟨a, h1, h2, b, h3, h4, h5⟩ => ⟨a, b, h1, h3, h2, h4, h5⟩, fun ⟨a, b, h1, h3, h2, h4, h5⟩ => ⟨a, h1, h2, b, h3, h4, h5⟩⟩
theorem unx_iff {p : Nat → Bool} {a : Nat} : unx n f e p a = true ↔ ∀ b, b < n → p (cmt n f e a b) = true := by unfold unx; exact decide_eq_true_iff
theorem nx_ex (n : Nat) (f : Nat → Nat → Nat) (e : Nat) (P : (Nat → Bool) → Nat → Bool) : ∃ nx : (Nat → Bool) → Nat → Bool, ∀ p a, a < n → (nx p a = true ↔ Gen n f e (P p) a) :=
  ⟨fun p => Classical.choose (gen_ex n f e (P p)), fun p => Classical.choose_spec (gen_ex n f e (P p))⟩
theorem Gen.congr {p q : Nat → Bool} (h : ∀ a, a < n → p a = q a) {a : Nat} : Gen n f e p a ↔ Gen n f e q a :=
  ⟨Gen.mono fun b hb h1 => by rw [← h b hb]; exact h1, Gen.mono fun b hb h1 => by rw [h b hb]; exact h1⟩
theorem nx_congr {P : (Nat → Bool) → Nat → Bool} {nx : (Nat → Bool) → Nat → Bool} (hnx : ∀ p a, a < n → (nx p a = true ↔ Gen n f e (P p) a)) (hP : ∀ p q : Nat → Bool, (∀ a, a < n → p a = q a) → ∀ a, a < n → P p a = P q a) : ∀ p q : Nat → Bool, (∀ a, a < n → p a = q a) → ∀ a, a < n → nx p a = nx q a := fun p q h a ha => by
  rw [Bool.eq_iff_iff, hnx p a ha, hnx q a ha]
  exact Gen.congr (hP p q h)
theorem Grp.all_sub (G : Grp n f e) : Sub n f e fun _ => true := sub_of G rfl fun _ _ _ _ _ _ => rfl
theorem Grp.one_nml (G : Grp n f e) : Nml n f e (onp e) := fun a ha x hx h => by
  rw [onp_iff] at *
  rw [h, G.cjr_one ha]
theorem Grp.dnp_nml (G : Grp n f e) {p q : Nat → Bool} (hp : Nml n f e p) (hq : Nml n f e q) : Nml n f e (dnp n f e p q) := fun c hc x hx h => by
  obtain ⟨a, b, a1, b1, a2, b2, rfl⟩ := dnp_iff.1 h
  rw [G.cjr_cmt a1 b1 hc]
  exact dnp_iff.2 ⟨_, _, G.cjr_lt a1 hc, G.cjr_lt b1 hc, hp c hc a a1 a2, hq c hc b b1 b2, rfl⟩
theorem Grp.cmt_in (G : Grp n f e) {p : Nat → Bool} (hs : Sub n f e p) (hn : Nml n f e p) {x b : Nat} (hx : x < n) (hb : b < n) (h : p x = true) : p (cmt n f e x b) = true := by
  rw [G.cmt_cjr hx hb]
  exact hs.mul _ _ (G.iv_lt hx) (G.cjr_lt hx hb) (hs.inv x hx h) (hn b hb x hx h)

/-! ### Falling -/

section
variable {nx : (Nat → Bool) → Nat → Bool}
theorem Grp.fall (G : Grp n f e) {P : (Nat → Bool) → Nat → Bool} (hnx : ∀ p a, a < n → (nx p a = true ↔ Gen n f e (P p) a)) (hP : ∀ p, Nml n f e p → Nml n f e (P p)) : ∀ k, Sub n f e (itr nx (fun _ => true) k) ∧ Nml n f e (itr nx (fun _ => true) k)
  | 0 => ⟨G.all_sub, fun _ _ _ _ _ => rfl⟩
  | k + 1 => ⟨gen_sub G (hnx _), G.gen_nml (hP _ (G.fall hnx hP k).2) (hnx _)⟩
theorem Grp.fall_le (G : Grp n f e) {P : (Nat → Bool) → Nat → Bool} (hnx : ∀ p a, a < n → (nx p a = true ↔ Gen n f e (P p) a)) (hP : ∀ p, Nml n f e p → Nml n f e (P p)) (hle : ∀ p, Sub n f e p → Nml n f e p → ∀ x, x < n → P p x = true → p x = true) (k : Nat) {a : Nat} (ha : a < n) (h : itr nx (fun _ => true) (k + 1) a = true) : itr nx (fun _ => true) k a = true := by
  obtain ⟨h1, h2⟩ := G.fall hnx hP k
  exact ((hnx _ a ha).1 h).sub G h1 fun b hb hc => hle _ h1 h2 b hb hc
theorem Grp.fall_stop (G : Grp n f e) {P : (Nat → Bool) → Nat → Bool} (hnx : ∀ p a, a < n → (nx p a = true ↔ Gen n f e (P p) a)) (hP : ∀ p, Nml n f e p → Nml n f e (P p)) (hle : ∀ p, Sub n f e p → Nml n f e p → ∀ x, x < n → P p x = true → p x = true) : ∃ K, K ≤ n ∧ Stp n (itr nx fun _ => true) K := by
  obtain ⟨K, h1, h2⟩ := stop_ex (n := n) (T := itr nx fun _ => true) (fun k => (mem n (itr nx (fun _ => true) k)).length) fun k hk => mem_lt (fun a ha h => G.fall_le hnx hP hle k ha h) hk
  refine ⟨K, Nat.le_trans h1 ?_, h2⟩
  exact Nat.le_trans (List.length_filter_le _ _) (Nat.le_of_eq List.length_range)
end
theorem Grp.dd_nml (G : Grp n f e) (p : Nat → Bool) (hp : Nml n f e p) : Nml n f e (dnp n f e p p) := G.dnp_nml hp hp
theorem Grp.da_nml (G : Grp n f e) (p : Nat → Bool) (hp : Nml n f e p) : Nml n f e (dnp n f e p fun _ => true) := G.dnp_nml hp fun _ _ _ _ _ => rfl
theorem Grp.dd_le (G : Grp n f e) (p : Nat → Bool) (hs : Sub n f e p) (hp : Nml n f e p) (x : Nat) (hx : x < n) (h : dnp n f e p p x = true) : p x = true := by
  obtain ⟨a, b, a1, b1, a2, b2, rfl⟩ := dnp_iff.1 h
  exact G.cmt_in hs hp a1 b1 a2
theorem Grp.da_le (G : Grp n f e) (p : Nat → Bool) (hs : Sub n f e p) (hp : Nml n f e p) (x : Nat) (hx : x < n) (h : dnp n f e p (fun _ => true) x = true) : p x = true := by
  obtain ⟨a, b, a1, b1, a2, b2, rfl⟩ := dnp_iff.1 h
  exact G.cmt_in hs hp a1 b1 a2
theorem dd_congr (p q : Nat → Bool) (h : ∀ a, a < n → p a = q a) (x : Nat) (_ : x < n) : dnp n f e p p x = dnp n f e q q x := by
  rw [Bool.eq_iff_iff, dnp_iff, dnp_iff]
  exact ⟨fun ⟨a, b, a1, b1, a2, b2, h3⟩ => ⟨a, b, a1, b1, by rw [← h a a1]; exact a2, by rw [← h b b1]; exact b2, h3⟩, fun ⟨a, b, a1, b1, a2, b2, h3⟩ => ⟨a, b, a1, b1, by rw [h a a1]; exact a2, by rw [h b b1]; exact b2, h3⟩⟩
theorem da_congr (p q : Nat → Bool) (h : ∀ a, a < n → p a = q a) (x : Nat) (_ : x < n) : dnp n f e p (fun _ => true) x = dnp n f e q (fun _ => true) x := by
  rw [Bool.eq_iff_iff, dnp_iff, dnp_iff]
  exact ⟨fun ⟨a, b, a1, b1, a2, b2, h3⟩ => ⟨a, b, a1, b1, by rw [← h a a1]; exact a2, b2, h3⟩, fun ⟨a, b, a1, b1, a2, b2, h3⟩ => ⟨a, b, a1, b1, by rw [h a a1]; exact a2, b2, h3⟩⟩
/-- Each Derived one is in the Lower one at its place. -/
theorem Grp.der_low (G : Grp n f e) {nd nl : (Nat → Bool) → Nat → Bool} (hd : ∀ p a, a < n → (nd p a = true ↔ Gen n f e (dnp n f e p p) a)) (hl : ∀ p a, a < n → (nl p a = true ↔ Gen n f e (dnp n f e p fun _ => true) a)) : ∀ k a, a < n → itr nd (fun _ => true) k a = true → itr nl (fun _ => true) k a = true
  | 0, _, _, _ => rfl
  | k + 1, a, ha, h => (hl _ a ha).2 (((hd _ a ha).1 h).mono fun b hb hc => by
      obtain ⟨x, y, x1, y1, x2, y2, h3⟩ := dnp_iff.1 hc
      exact dnp_iff.2 ⟨x, y, x1, y1, G.der_low hd hl k x x1 x2, rfl, h3⟩)

/-! ### Rising -/

theorem Grp.unx_in (G : Grp n f e) {p : Nat → Bool} (hs : Sub n f e p) (hn : Nml n f e p) {x : Nat} (hx : x < n) (h : p x = true) : unx n f e p x = true := unx_iff.2 fun b hb => G.cmt_in hs hn hx hb h
theorem Grp.unx_sub (G : Grp n f e) {p : Nat → Bool} (hs : Sub n f e p) (hn : Nml n f e p) : Sub n f e (unx n f e p) := by
  refine sub_of G (G.unx_in hs hn G.el hs.one) fun x y hx hy h1 h2 => unx_iff.2 fun b hb => ?_
  have ix := G.iv_lt hx
  have iy := G.iv_lt hy
  have hxb := G.cjr_lt hx hb
  have hyb := G.cjr_lt hy hb
  have hcx := G.cmt_lt hx hb
  have h3 := hs.mul _ _ (G.cjr_lt hcx hy) (G.cmt_lt hy hb) (hn y hy _ hcx (unx_iff.1 h1 b hb)) (unx_iff.1 h2 b hb)
  have : cmt n f e (f x y) b = f (cjr n f e (cmt n f e x b) y) (cmt n f e y b) := by
    have e1 : cjr n f e (cmt n f e x b) y = f (f (iv n f e y) (cmt n f e x b)) y := rfl
    rw [G.cmt_cjr (G.cl _ _ hx hy) hb, G.iv_prod hx hy, G.cjr_hom hx hy hb, e1, G.cmt_cjr hy hb, G.assoc (f (iv n f e y) (cmt n f e x b)) y _ (G.cl _ _ iy hcx) hy (G.cl _ _ iy hyb), ← G.assoc y (iv n f e y) _ hy iy hyb, G.mul_iv hy, G.one_l _ hyb, G.cmt_cjr hx hb, G.assoc (iv n f e y) (iv n f e x) _ iy ix (G.cl _ _ hxb hyb), ← G.assoc (iv n f e x) _ _ ix hxb hyb, ← G.assoc (iv n f e y) _ _ iy (G.cl _ _ ix hxb) hyb]
  rw [this]; exact h3
theorem Grp.unx_nml (G : Grp n f e) {p : Nat → Bool} (hn : Nml n f e p) : Nml n f e (unx n f e p) := fun c hc x hx h => unx_iff.2 fun b hb => by
  have ic := G.iv_lt hc
  have hbc := G.cjr_lt hb ic
  have h1 := hn c hc _ (G.cmt_lt hx hbc) (unx_iff.1 h _ hbc)
  rwa [G.cjr_cmt hx hbc hc, G.cjr_vi hb hc] at h1
theorem Grp.rise (G : Grp n f e) : ∀ k, Sub n f e (itr (unx n f e) (onp e) k) ∧ Nml n f e (itr (unx n f e) (onp e) k)
  | 0 => ⟨G.onp_sub, G.one_nml⟩
  | k + 1 => ⟨G.unx_sub (G.rise k).1 (G.rise k).2, G.unx_nml (G.rise k).2⟩
theorem Grp.rise_stop (G : Grp n f e) : ∃ K, K ≤ n ∧ Stp n (itr (unx n f e) (onp e)) K := by
  have hle : ∀ p : Nat → Bool, (mem n p).length ≤ n := fun p => Nat.le_trans (List.length_filter_le _ _) (Nat.le_of_eq List.length_range)
  obtain ⟨K, h1, h2⟩ := stop_ex (n := n) (T := itr (unx n f e) (onp e)) (fun k => n - (mem n (itr (unx n f e) (onp e) k)).length) fun k hk => by
    have h1 := mem_lt (n := n) (p := itr (unx n f e) (onp e) (k + 1)) (q := itr (unx n f e) (onp e) k) (fun a ha h => G.unx_in (G.rise k).1 (G.rise k).2 ha h) (fun h => hk fun a ha => (h a ha).symm)
    have h2 := hle (itr (unx n f e) (onp e) (k + 1))
    have h3 := hle (itr (unx n f e) (onp e) k)
    show n - _ < n - _
    omega
  exact ⟨K, Nat.le_trans h1 (Nat.sub_le _ _), h2⟩
end
end Go.Proofs.YtjikchbmkodgfaaDoor
