
/-
  Products of groups: plain laws, with no program in sight. Conditions: none.
-/
import Derived.Test.YtgnhcdpjmfoklaaDoorT9
import Derived.Test.YtgnhcdpjmfoklaaDoorG3
set_option linter.all false
namespace Go.Proofs.YtgnhcdpjmfoklaaDoor
open Go.Pv

theorem Grp.congr {n : Nat} {f f' : Nat → Nat → Nat} {e : Nat} (G : Grp n f e) (h : ∀ a b, a < n → b < n → f' a b = f a b) : Grp n f' e := by
  refine ⟨G.pos, fun a b ha hb => by rw [h a b ha hb]; exact G.cl a b ha hb, G.el, fun a ha => by rw [h e a G.el ha]; exact G.one_l a ha, fun a ha => by rw [h a e ha G.el]; exact G.one_r a ha, fun a b c ha hb hc => ?_, fun a ha => ?_⟩
  · rw [h a b ha hb, h _ c (G.cl a b ha hb) hc, h b c hb hc, h a _ ha (G.cl b c hb hc)]
    exact G.assoc a b c ha hb hc
  · obtain ⟨b, hb, h1, h2⟩ := G.inv a ha
    exact ⟨b, hb, by rw [h a b ha hb]; exact h1, by rw [h b a hb ha]; exact h2⟩
theorem Grp.pw_congr {n : Nat} {f f' : Nat → Nat → Nat} {e : Nat} (G : Grp n f e) (h : ∀ a b, a < n → b < n → f' a b = f a b) {a : Nat} (ha : a < n) : ∀ k, pw f' e a k = pw f e a k
  | 0 => rfl
  | k + 1 => by
    show f' (pw f' e a k) a = f (pw f e a k) a
    rw [G.pw_congr h ha k, h _ a (G.pw_lt ha k) ha]

theorem tbl_op (g : Nat → Nat → Nat) {n a b : Nat} (ha : a < n) (hb : b < n) : op (tbl (fun a b => (g a b : Nat)) n) n a b = g a b := by
  unfold op
  rw [tbl_get _ ha hb]; rfl
theorem tbl_GT {n e : Nat} {g : Nat → Nat → Nat} (hn : n ≤ 60) (G : Grp n g e) : GT n (tbl (fun a b => (g a b : Nat)) n) n e := by
  refine ⟨rfl, ⟨G.pos, hn, tbl_len _ _, fun i hi => ?_⟩, G.congr fun a b ha hb => tbl_op g ha hb⟩
  have h1 : i / n < n := Nat.div_lt_of_lt_mul hi
  have h2 : i % n < n := Nat.mod_lt _ G.pos
  have h3 : i / n * n + i % n = i := by rw [Nat.mul_comm]; exact Nat.div_add_mod i n
  have := tbl_get (fun a b => ((g a b : Nat) : Int)) h1 h2
  rw [h3] at this
  rw [this]
  have := G.cl _ _ h1 h2
  omega

section
variable {n n' e e' : Nat} {f f' : Nat → Nat → Nat}

theorem pair_div {x y n' : Nat} (hy : y < n') : (x * n' + y) / n' = x := by
  rw [Nat.mul_comm, Nat.mul_add_div (by omega), Nat.div_eq_of_lt hy]; omega
theorem pair_mod {x y n' : Nat} (hy : y < n') : (x * n' + y) % n' = y := by
  rw [Nat.mul_comm, Nat.mul_add_mod, Nat.mod_eq_of_lt hy]
theorem pair_lt {x y n n' : Nat} (hx : x < n) (hy : y < n') : x * n' + y < n * n' := by
  have : (x + 1) * n' ≤ n * n' := Nat.mul_le_mul_right _ hx
  rw [Nat.add_mul, Nat.one_mul] at this
  omega
theorem split_lt {a : Nat} (hp : 0 < n') (ha : a < n * n') : a / n' < n ∧ a % n' < n' ∧ a / n' * n' + a % n' = a :=
  ⟨Nat.div_lt_of_lt_mul (by rw [Nat.mul_comm]; exact ha), Nat.mod_lt _ hp, by rw [Nat.mul_comm]; exact Nat.div_add_mod a n'⟩

theorem prd_div (G' : Grp n' f' e') {a b : Nat} : prd n' f f' a b / n' = f (a / n') (b / n') := pair_div (G'.cl _ _ (Nat.mod_lt _ G'.pos) (Nat.mod_lt _ G'.pos))
theorem prd_mod (G' : Grp n' f' e') {a b : Nat} : prd n' f f' a b % n' = f' (a % n') (b % n') := pair_mod (G'.cl _ _ (Nat.mod_lt _ G'.pos) (Nat.mod_lt _ G'.pos))

/-- THE PRODUCT is a group. -/
theorem prd_grp (G : Grp n f e) (G' : Grp n' f' e') : Grp (n * n') (prd n' f f') (e * n' + e') := by
  have hp := G'.pos
  refine ⟨Nat.mul_pos G.pos hp, fun a b ha hb => ?_, pair_lt G.el G'.el, fun a ha => ?_, fun a ha => ?_, fun a b c ha hb hc => ?_, fun a ha => ?_⟩
  · obtain ⟨a1, a2, _⟩ := split_lt hp ha
    obtain ⟨b1, b2, _⟩ := split_lt hp hb
    exact pair_lt (G.cl _ _ a1 b1) (G'.cl _ _ a2 b2)
  · obtain ⟨a1, a2, a3⟩ := split_lt hp ha
    unfold prd
    rw [pair_div G'.el, pair_mod G'.el, G.one_l _ a1, G'.one_l _ a2, a3]
  · obtain ⟨a1, a2, a3⟩ := split_lt hp ha
    unfold prd
    rw [pair_div G'.el, pair_mod G'.el, G.one_r _ a1, G'.one_r _ a2, a3]
  · obtain ⟨a1, a2, _⟩ := split_lt hp ha
    obtain ⟨b1, b2, _⟩ := split_lt hp hb
    obtain ⟨c1, c2, _⟩ := split_lt hp hc
    have l : prd n' f f' (prd n' f f' a b) c = f (prd n' f f' a b / n') (c / n') * n' + f' (prd n' f f' a b % n') (c % n') := rfl
    have r : prd n' f f' a (prd n' f f' b c) = f (a / n') (prd n' f f' b c / n') * n' + f' (a % n') (prd n' f f' b c % n') := rfl
    rw [l, r, prd_div G', prd_mod G', prd_div G', prd_mod G', G.assoc _ _ _ a1 b1 c1, G'.assoc _ _ _ a2 b2 c2]
  · obtain ⟨a1, a2, _⟩ := split_lt hp ha
    obtain ⟨x, hx, x1, x2⟩ := G.inv _ a1
    obtain ⟨y, hy, y1, y2⟩ := G'.inv _ a2
    refine ⟨x * n' + y, pair_lt hx hy, ?_, ?_⟩
    · unfold prd; rw [pair_div hy, pair_mod hy, x1, y1]
    · unfold prd; rw [pair_div hy, pair_mod hy, x2, y2]

theorem prd_pw (G : Grp n f e) (G' : Grp n' f' e') {a : Nat} (ha : a < n * n') : ∀ k, pw (prd n' f f') (e * n' + e') a k = pw f e (a / n') k * n' + pw f' e' (a % n') k
  | 0 => rfl
  | k + 1 => by
    obtain ⟨a1, a2, _⟩ := split_lt G'.pos ha
    show prd n' f f' (pw (prd n' f f') (e * n' + e') a k) a = _
    rw [prd_pw G G' ha k]
    unfold prd
    rw [pair_div (G'.pw_lt a2 k), pair_mod (G'.pw_lt a2 k)]
    rfl

/-- THE ORDERS of a product's things. -/
theorem prd_ord (G : Grp n f e) (G' : Grp n' f' e') {a : Nat} (ha : a < n * n') : ord (n * n') (prd n' f f') (e * n' + e') a = Nat.lcm (ord n f e (a / n')) (ord n' f' e' (a % n')) := by
  obtain ⟨a1, a2, _⟩ := split_lt G'.pos ha
  refine (prd_grp G G').ord_eq ha fun j => ?_
  rw [prd_pw G G' ha]
  constructor
  · intro h
    have h1 := congrArg (· / n') h
    have h2 := congrArg (· % n') h
    rw [pair_div (G'.pw_lt a2 j), pair_div G'.el] at h1
    rw [pair_mod (G'.pw_lt a2 j), pair_mod G'.el] at h2
    exact Nat.lcm_dvd ((G.pw_eq_one a1 j).1 h1) ((G'.pw_eq_one a2 j).1 h2)
  · intro h
    rw [(G.pw_eq_one a1 j).2 (Nat.dvd_trans (Nat.dvd_lcm_left _ _) h), (G'.pw_eq_one a2 j).2 (Nat.dvd_trans (Nat.dvd_lcm_right _ _) h)]

theorem prd_abel (G : Grp n f e) (G' : Grp n' f' e') : (∀ a, a < n * n' → ∀ b, b < n * n' → prd n' f f' a b = prd n' f f' b a) ↔ (∀ a, a < n → ∀ b, b < n → f a b = f b a) ∧ (∀ a, a < n' → ∀ b, b < n' → f' a b = f' b a) := by
  constructor
  · intro h
    refine ⟨fun a ha b hb => ?_, fun a ha b hb => ?_⟩
    · have := congrArg (· / n') (h (a * n' + e') (pair_lt ha G'.el) (b * n' + e') (pair_lt hb G'.el))
      rw [prd_div G', prd_div G', pair_div G'.el, pair_div G'.el] at this
      exact this
    · have := congrArg (· % n') (h (e * n' + a) (pair_lt G.el ha) (e * n' + b) (pair_lt G.el hb))
      rw [prd_mod G', prd_mod G', pair_mod ha, pair_mod hb] at this
      exact this
  · rintro ⟨h1, h2⟩ a ha b hb
    obtain ⟨a1, a2, _⟩ := split_lt G'.pos ha
    obtain ⟨b1, b2, _⟩ := split_lt G'.pos hb
    unfold prd
    rw [h1 _ a1 _ b1, h2 _ a2 _ b2]
end

theorem ord_congr {n : Nat} {f f' : Nat → Nat → Nat} {e : Nat} (G : Grp n f e) (h : ∀ a b, a < n → b < n → f' a b = f a b) {a : Nat} (ha : a < n) : ord n f' e a = ord n f e a := by
  refine (G.congr h).ord_eq ha fun j => ?_
  rw [G.pw_congr h ha]
  exact G.pw_eq_one ha j

end Go.Proofs.YtgnhcdpjmfoklaaDoor
