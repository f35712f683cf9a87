
/-
  Classes of conjugates: how often products are in a class: sums. Conditions: none.
-/
import Derived.Test.YthdmioeddgednaaDoorG14
set_option linter.all false
namespace Go.Proofs.YthdmioeddgednaaDoor

def bi (b : Bool) : Int := if b = true then 1 else 0
def sm (n : Nat) (g : Nat → Int) : Int := ((List.range n).map g).sum

theorem sm_zero (g : Nat → Int) : sm 0 g = 0 := by simp [sm]
theorem sm_succ (n : Nat) (g : Nat → Int) : sm (n + 1) g = sm n g + g n := by
  simp [sm, List.range_succ, List.sum_append]
theorem sm_congr {n : Nat} {g h : Nat → Int} (e : ∀ a, a < n → g a = h a) : sm n g = sm n h := by
  unfold sm
  rw [List.map_congr_left fun a ha => e a (List.mem_range.1 ha)]
theorem sm_nil (n : Nat) : sm n (fun _ => 0) = 0 := by
  induction n with
  | zero => exact sm_zero _
  | succ n ih => rw [sm_succ, ih]; rfl
theorem sm_add (n : Nat) (g h : Nat → Int) : sm n (fun a => g a + h a) = sm n g + sm n h := by
  induction n with
  | zero => simp [sm_zero]
  | succ n ih => rw [sm_succ, sm_succ, sm_succ, ih]; omega
theorem sm_mul (n : Nat) (k : Int) (g : Nat → Int) : sm n (fun a => k * g a) = k * sm n g := by
  induction n with
  | zero => simp [sm_zero]
  | succ n ih => rw [sm_succ, sm_succ, ih, Int.mul_add]
theorem sm_mulr (n : Nat) (k : Int) (g : Nat → Int) : sm n (fun a => g a * k) = sm n g * k := by
  rw [Int.mul_comm, ← sm_mul]
  exact sm_congr fun a _ => Int.mul_comm _ _
theorem sm_swap (n c : Nat) (G : Nat → Nat → Int) : sm n (fun a => sm c (G a)) = sm c fun b => sm n fun a => G a b := by
  induction n with
  | zero => simp only [sm_zero]; exact (sm_nil c).symm
  | succ n ih =>
    rw [sm_succ, ih, ← sm_add]
    exact sm_congr fun b _ => (sm_succ n fun a => G a b).symm
theorem sm_only {n b0 : Nat} {g : Nat → Int} (h0 : b0 < n) (h : ∀ b, b < n → b ≠ b0 → g b = 0) : sm n g = g b0 := by
  induction n with
  | zero => omega
  | succ n ih =>
    rw [sm_succ]
    by_cases e : b0 = n
    · subst e
      rw [sm_congr (h := fun _ => 0) fun a ha => h a (by omega) (by omega), sm_nil, Int.zero_add]
    · rw [ih (by omega) fun b hb hne => h b (by omega) hne, h n (by omega) (fun e2 => e e2.symm), Int.add_zero]
theorem bi_mul {b : Bool} {x y : Int} (h : b = true → x = y) : bi b * x = bi b * y := by
  cases b with
  | false => simp [bi]
  | true => rw [h rfl]
theorem sm_bij {n : Nat} (g : Nat → Int) (φ ψ : Nat → Nat) (h1 : ∀ a, a < n → φ a < n) (h2 : ∀ a, a < n → ψ a < n) (h3 : ∀ a, a < n → ψ (φ a) = a) (h4 : ∀ a, a < n → φ (ψ a) = a) : sm n (fun a => g (φ a)) = sm n g := by
  have e1 : sm n (fun a => g (φ a)) = sm n fun a => sm n fun b => bi (decide (b = φ a)) * g b := by
    refine sm_congr fun a ha => ?_
    rw [sm_only (h1 a ha) fun b _ hne => by simp [bi, hne]]
    simp [bi]
  rw [e1, sm_swap]
  refine sm_congr fun b hb => ?_
  rw [sm_only (h2 b hb) fun a ha hne => by
    have : ¬ b = φ a := fun e => hne (by rw [e, h3 a ha])
    simp [bi, this], h4 b hb]
  simp [bi]

/-- So many a of the first with b of the second that make z. -/
def cn (n : Nat) (f : Nat → Nat → Nat) (e : Nat) (p q : Nat → Bool) (z : Nat) : Int := sm n fun a => bi (p a) * bi (q (f (iv n f e a) z))

section
variable {n e : Nat} {f : Nat → Nat → Nat}

theorem Grp.cancel_il (G : Grp n f e) {a b : Nat} (ha : a < n) (hb : b < n) : f (iv n f e a) (f a b) = b := by
  rw [← G.assoc _ _ _ (G.iv_lt ha) ha hb, G.iv_mul ha, G.one_l b hb]
theorem Grp.cancel_li (G : Grp n f e) {a b : Nat} (ha : a < n) (hb : b < n) : f a (f (iv n f e a) b) = b := by
  rw [← G.assoc _ _ _ ha (G.iv_lt ha) hb, G.mul_iv ha, G.one_l b hb]
theorem Grp.cancel_ri (G : Grp n f e) {a b : Nat} (ha : a < n) (hb : b < n) : f (f b a) (iv n f e a) = b := by
  rw [G.assoc _ _ _ hb ha (G.iv_lt ha), G.mul_iv ha, G.one_r b hb]
theorem Grp.cancel_ir (G : Grp n f e) {a b : Nat} (ha : a < n) (hb : b < n) : f (f b (iv n f e a)) a = b := by
  rw [G.assoc _ _ _ hb (G.iv_lt ha) ha, G.iv_mul ha, G.one_r b hb]

/-- By the second part. -/
theorem Grp.cn_flip (G : Grp n f e) (p : Nat → Bool) (K : Nat → Int) {z : Nat} (hz : z < n) : sm n (fun a => bi (p a) * K (f (iv n f e a) z)) = sm n fun u => K u * bi (p (f z (iv n f e u))) := by
  rw [← sm_bij (fun u => K u * bi (p (f z (iv n f e u)))) (fun a => f (iv n f e a) z) (fun u => f z (iv n f e u)) (fun a ha => G.cl _ _ (G.iv_lt ha) hz) (fun u hu => G.cl _ _ hz (G.iv_lt hu)) (fun a ha => ?_) (fun u hu => ?_)]
  · refine sm_congr fun a ha => ?_
    have : f z (iv n f e (f (iv n f e a) z)) = a := by
      rw [G.iv_prod (G.iv_lt ha) hz, G.iv_iv ha, G.cancel_li hz ha]
    simp only [this]
    exact Int.mul_comm _ _
  · show f z (iv n f e (f (iv n f e a) z)) = a
    rw [G.iv_prod (G.iv_lt ha) hz, G.iv_iv ha, G.cancel_li hz ha]
  · show f (iv n f e (f z (iv n f e u))) z = u
    rw [G.iv_prod hz (G.iv_lt hu), G.iv_iv hu, G.cancel_ir hz hu]

/-- Of a set that conjugates stay in. -/
def Cf (n : Nat) (f : Nat → Nat → Nat) (e : Nat) (p : Nat → Bool) : Prop := ∀ a g, a < n → g < n → p (f (f (iv n f e g) a) g) = p a

theorem Grp.cn_comm (G : Grp n f e) {p q : Nat → Bool} (hp : Cf n f e p) {z : Nat} (hz : z < n) : cn n f e p q z = cn n f e q p z := by
  have h1 : cn n f e p q z = sm n fun u => bi (q u) * bi (p (f z (iv n f e u))) := G.cn_flip p (fun u => bi (q u)) hz
  rw [h1]
  refine sm_congr fun u hu => ?_
  congr 2
  have iu := G.iv_lt hu
  have := hp (f z (iv n f e u)) u (G.cl _ _ hz iu) hu
  rw [← this]
  congr 1
  rw [G.assoc _ _ _ iu (G.cl _ _ hz iu) hu, G.cancel_ir hu hz]

theorem Grp.cn_cls (G : Grp n f e) {p q : Nat → Bool} (hp : Cf n f e p) (hq : Cf n f e q) {z g : Nat} (hz : z < n) (hg : g < n) : cn n f e p q (f (f (iv n f e g) z) g) = cn n f e p q z := by
  have ig := G.iv_lt hg
  unfold cn
  rw [← sm_bij (fun a => bi (p a) * bi (q (f (iv n f e a) (f (f (iv n f e g) z) g)))) (fun a => f (f (iv n f e g) a) g) (fun a => f (f g a) (iv n f e g)) (fun a ha => G.cl _ _ (G.cl _ _ ig ha) hg) (fun a ha => G.cl _ _ (G.cl _ _ hg ha) ig) (fun a ha => ?_) (fun a ha => ?_)]
  · refine sm_congr fun a ha => ?_
    have ia := G.iv_lt ha
    have e1 : f (iv n f e (f (f (iv n f e g) a) g)) (f (f (iv n f e g) z) g) = f (f (iv n f e g) (f (iv n f e a) z)) g := by
      rw [G.iv_prod (G.cl _ _ ig ha) hg, G.iv_prod ig ha, G.iv_iv hg, G.assoc _ _ _ ig (G.cl _ _ ia hg) (G.cl _ _ (G.cl _ _ ig hz) hg), G.assoc _ _ _ ia hg (G.cl _ _ (G.cl _ _ ig hz) hg), ← G.assoc _ _ _ hg (G.cl _ _ ig hz) hg, G.cancel_li hg hz, ← G.assoc _ _ _ ia hz hg, ← G.assoc _ _ _ ig (G.cl _ _ ia hz) hg]
    rw [e1, hp a g ha hg, hq _ g (G.cl _ _ ia hz) hg]
  · show f (f g (f (f (iv n f e g) a) g)) (iv n f e g) = a
    rw [G.assoc _ _ _ ig ha hg, G.cancel_li hg (G.cl _ _ ha hg), G.cancel_ri hg ha]
  · show f (f (iv n f e g) (f (f g a) (iv n f e g))) g = a
    rw [G.assoc _ _ _ hg ha ig, G.cancel_il hg (G.cl _ _ ha ig), G.cancel_ir hg ha]

/-- Classes, with a first thing each. -/
structure Cls (n : Nat) (f : Nat → Nat → Nat) (e C : Nat) (P : Nat → Nat → Bool) (z : Nat → Nat) : Prop where
  cl : ∀ c, c < C → Cf n f e (P c)
  zl : ∀ c, c < C → z c < n
  at_ : ∀ c, c < C → ∀ u, u < n → P c u = true → ∃ g, g < n ∧ u = f (f (iv n f e g) (z c)) g
  one : ∀ u, u < n → ∃ c, c < C ∧ P c u = true ∧ ∀ c', c' < C → P c' u = true → c' = c

variable {C : Nat} {P : Nat → Nat → Bool} {z : Nat → Nat}

theorem Cls.sum (h : Cls n f e C P z) (F K : Nat → Int) (hF : ∀ c, c < C → ∀ u, u < n → P c u = true → F u = F (z c)) :
    sm C (fun c => F (z c) * sm n fun u => bi (P c u) * K u) = sm n fun u => F u * K u := by
  have e1 : sm C (fun c => F (z c) * sm n fun u => bi (P c u) * K u) = sm C fun c => sm n fun u => bi (P c u) * (F u * K u) := by
    refine sm_congr fun c hc => ?_
    rw [← sm_mul]
    refine sm_congr fun u hu => ?_
    rw [← Int.mul_assoc, Int.mul_comm (F (z c)), Int.mul_assoc]
    exact bi_mul fun hp => by rw [hF c hc u hu hp]
  rw [e1, sm_swap]
  refine sm_congr fun u hu => ?_
  obtain ⟨c, c1, c2, c3⟩ := h.one u hu
  rw [sm_only c1 fun c' hc' hne => by
    have : P c' u = false := by
      cases e : P c' u with
      | false => rfl
      | true => exact absurd (c3 c' hc' e) hne
    simp [bi, this]]
  simp [bi, c2]

theorem Cls.cnF (h : Cls n f e C P z) (G : Grp n f e) {p q : Nat → Bool} (hp : Cf n f e p) (hq : Cf n f e q) : ∀ c, c < C → ∀ u, u < n → P c u = true → cn n f e p q u = cn n f e p q (z c) := by
  intro c hc u hu hP
  obtain ⟨g, g1, rfl⟩ := h.at_ c hc u hu hP
  exact G.cn_cls hp hq (h.zl c hc) g1

/-- All pairs. -/
theorem Cls.pairs (h : Cls n f e C P z) (G : Grp n f e) {i j : Nat} (hi : i < C) (hj : j < C) :
    sm C (fun m => cn n f e (P i) (P j) (z m) * sm n fun u => bi (P m u)) = sm n (fun u => bi (P i u)) * sm n fun u => bi (P j u) := by
  have h1 := h.sum (cn n f e (P i) (P j)) (fun _ => 1) (h.cnF G (h.cl i hi) (h.cl j hj))
  simp only [Int.mul_one] at h1
  rw [h1]
  unfold cn
  rw [sm_swap, ← sm_mulr]
  refine sm_congr fun a ha => ?_
  rw [sm_mul]
  congr 1
  exact sm_bij (fun u => bi (P j u)) (fun u => f (iv n f e a) u) (fun u => f a u) (fun u hu => G.cl _ _ (G.iv_lt ha) hu) (fun u hu => G.cl _ _ ha hu) (fun u hu => G.cancel_li ha hu) (fun u hu => G.cancel_il ha hu)

/-- Products of classes group as one likes. -/
theorem Cls.assoc (h : Cls n f e C P z) (G : Grp n f e) {i j k w : Nat} (hi : i < C) (hj : j < C) (hk : k < C) (hw : w < n) :
    sm C (fun c => cn n f e (P i) (P j) (z c) * cn n f e (P c) (P k) w) = sm C fun c => cn n f e (P j) (P k) (z c) * cn n f e (P i) (P c) w := by
  have h1 := h.sum (cn n f e (P i) (P j)) (fun u => bi (P k (f (iv n f e u) w))) (h.cnF G (h.cl i hi) (h.cl j hj))
  have h2 := h.sum (cn n f e (P j) (P k)) (fun u => bi (P i (f w (iv n f e u)))) (h.cnF G (h.cl j hj) (h.cl k hk))
  have e2 : ∀ c, c < C → cn n f e (P i) (P c) w = sm n fun u => bi (P c u) * bi (P i (f w (iv n f e u))) := fun c _ => G.cn_flip (P i) (fun u => bi (P c u)) hw
  rw [sm_congr (g := fun c => cn n f e (P j) (P k) (z c) * cn n f e (P i) (P c) w) (h := fun c => cn n f e (P j) (P k) (z c) * sm n fun u => bi (P c u) * bi (P i (f w (iv n f e u)))) fun c hc => by rw [e2 c hc], h2]
  have e1 : sm C (fun c => cn n f e (P i) (P j) (z c) * cn n f e (P c) (P k) w) = sm n fun u => cn n f e (P i) (P j) u * bi (P k (f (iv n f e u) w)) := h1
  rw [e1, ← G.cn_flip (P i) (fun u => cn n f e (P j) (P k) u) hw]
  unfold cn
  rw [sm_congr (n := n) (h := fun u => sm n fun a => bi (P i a) * bi (P j (f (iv n f e a) u)) * bi (P k (f (iv n f e u) w))) fun u hu => (sm_mulr _ _ _).symm, sm_swap]
  refine sm_congr fun a ha => ?_
  have ia := G.iv_lt ha
  rw [← sm_bij (fun u => bi (P i a) * bi (P j (f (iv n f e a) u)) * bi (P k (f (iv n f e u) w))) (fun b => f a b) (fun u => f (iv n f e a) u) (fun u hu => G.cl _ _ ha hu) (fun u hu => G.cl _ _ ia hu) (fun u hu => G.cancel_il ha hu) (fun u hu => G.cancel_li ha hu), ← sm_mul]
  refine sm_congr fun b hb => ?_
  rw [G.cancel_il ha hb, G.iv_prod ha hb, G.assoc _ _ _ (G.iv_lt hb) ia hw, Int.mul_assoc]
end
end Go.Proofs.YthdmioeddgednaaDoor
