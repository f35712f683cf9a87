/-
  Plain law, FROBENIUS' THEOREM: how many things the quotient of a centraliser has, and how many solutions. Conditions: none.
-/
import Derived.Test.YtmkebnaedgdeaaaG9
set_option linter.all false
namespace Go.Proofs.Ytmkebnaedgdeaaa
open Go.Pv

section
variable {n : Nat} {f : Nat → Nat → Nat} {e : Nat}

theorem filter_one {l : List Nat} (h : l.Nodup) {a : Nat} (ha : a ∈ l) : (l.filter fun w => decide (a = w)).length = 1 := by
  have : (l.filter fun w => decide (a = w)).length = [a].length := same_len (h.filter _) (by simp) fun x => by
    rw [List.mem_filter, decide_eq_true_eq, List.mem_singleton]
    constructor
    · rintro ⟨_, h⟩; exact h.symm
    · rintro rfl; exact ⟨ha, rfl⟩
  exact this

theorem Grp.quo_card (G : Grp n f e) {y : Nat} (hy : y < n) : (mem n (cen f y)).length = (quo n f e y).length * ord n f e y := by
  have := dbl (fun x w => decide (rp n f e y x = w)) (L1 := mem n (cen f y)) (L2 := quo n f e y) (c1 := 1) (c2 := ord n f e y) ?_ ?_
  · omega
  · intro x hx
    obtain ⟨x1, x2⟩ := mem_mem.1 hx
    exact filter_one (G.quo_gs hy).nd (G.rp_quo hy x1 (cen_iff.1 x2))
  · intro w hw
    obtain ⟨w1, w2, w3⟩ := mem_quo.1 hw
    have hl : ((mem n (cen f y)).filter fun a => decide (rp n f e y a = w)).length = ((List.range (ord n f e y)).map fun j => f w (pw f e y j)).length := by
      refine same_len ((List.nodup_range.filter _).filter _) (nodup_map List.nodup_range fun i hi j hj he => ?_) fun x => ?_
      · exact G.pw_inj hy (List.mem_range.1 hi) (List.mem_range.1 hj) (G.cancel_l w1 (G.pw_lt hy i) (G.pw_lt hy j) he)
      · rw [List.mem_filter, List.mem_map, decide_eq_true_eq]
        constructor
        · rintro ⟨hx, h⟩
          obtain ⟨x1, x2⟩ := mem_mem.1 hx
          rw [← w3] at h
          obtain ⟨j, hj, h⟩ := (G.rp_eq hy w1 x1).1 h.symm
          exact ⟨j, List.mem_range.2 hj, h.symm⟩
        · rintro ⟨j, hj, rfl⟩
          have hc := (G.cen_sub hy).mul w (pw f e y j) w1 (G.pw_lt hy j) (cen_iff.2 w2) (cen_iff.2 (G.cen_pw hy hy rfl j).symm)
          have hlt := G.cl _ _ w1 (G.pw_lt hy j)
          refine ⟨mem_mem.2 ⟨hlt, hc⟩, ?_⟩
          rw [← (G.rp_eq hy w1 hlt).2 (G.sm_of hy j), w3]
    rw [hl]; simp

theorem Grp.quo_pw (G : Grp n f e) {y w : Nat} (hy : y < n) (hw : w < n) (hc : f w y = f y w) : ∀ k, pw (fun a b => rp n f e y (f a b)) (rp n f e y e) w k = rp n f e y (pw f e w k)
  | 0 => rfl
  | k + 1 => by
    have hk := G.pw_lt hw k
    show rp n f e y (f (pw (fun a b => rp n f e y (f a b)) (rp n f e y e) w k) w) = rp n f e y (f (pw f e w k) w)
    rw [G.quo_pw hy hw hc k]
    exact ((G.rp_eq hy (G.cl _ _ hk hw) (G.cl _ _ (G.rp_lt hy hk) hw)).2 (G.sm_mul hy hk hw hc (G.rp_sm hy hk) (G.sm_refl hy hw))).symm

theorem Grp.pw_sm (G : Grp n f e) {y x : Nat} (hy : y < n) (hx : x < n) (hc : f x y = f y x) (j s : Nat) : pw f e (f x (pw f e y j)) s = f (pw f e x s) (pw f e y (j * s)) := by
  rw [G.pw_comm2 (G.pw_lt hy j) hx (G.cen_pw hy hx hc j), ← G.pw_mul hy]

theorem Grp.quo_sol (G : Grp n f e) {y s : Nat} (hy : y < n) (hs : Nat.gcd (ord n f e y) s = 1) :
    ((mem n (cen f y)).filter fun x => decide (pw f e x s = e)).length = ((quo n f e y).filter fun w => decide (pw (fun a b => rp n f e y (f a b)) (rp n f e y e) w s = rp n f e y e)).length := by
  have ho := G.ord_pos hy
  have hl : (((mem n (cen f y)).filter fun x => decide (pw f e x s = e)).map (rp n f e y)).length = ((quo n f e y).filter fun w => decide (pw (fun a b => rp n f e y (f a b)) (rp n f e y e) w s = rp n f e y e)).length := by
    refine same_len (nodup_map ((List.nodup_range.filter _).filter _) fun x hx z hz he => ?_) ((G.quo_gs hy).nd.filter _) fun w => ?_
    · obtain ⟨hx1, hx2⟩ := List.mem_filter.1 hx
      obtain ⟨hz1, hz2⟩ := List.mem_filter.1 hz
      obtain ⟨x1, x2⟩ := mem_mem.1 hx1
      obtain ⟨z1, z2⟩ := mem_mem.1 hz1
      rw [decide_eq_true_eq] at hx2 hz2
      obtain ⟨j, hj, rfl⟩ := (G.rp_eq hy x1 z1).1 he
      rw [G.pw_sm hy x1 (cen_iff.1 x2), hx2, G.one_l _ (G.pw_lt hy _)] at hz2
      have hd := (G.pw_eq_one hy _).1 hz2
      have hj0 : ord n f e y ∣ j := Nat.Coprime.dvd_of_dvd_mul_right hs hd
      have : j = 0 := by
        rcases Nat.eq_zero_or_pos j with h | h
        · exact h
        · have := Nat.le_of_dvd h hj0; omega
      subst this
      rw [show pw f e y 0 = e from rfl, G.one_r x x1]
    · rw [List.mem_map, List.mem_filter]
      constructor
      · rintro ⟨x, hx, rfl⟩
        obtain ⟨hx1, hx2⟩ := List.mem_filter.1 hx
        obtain ⟨x1, x2⟩ := mem_mem.1 hx1
        rw [decide_eq_true_eq] at hx2
        rw [cen_iff] at x2
        refine ⟨G.rp_quo hy x1 x2, ?_⟩
        rw [decide_eq_true_eq, G.quo_pw hy (G.rp_lt hy x1) (G.cen_rp hy x1 x2)]
        obtain ⟨j, _, hj⟩ := G.rp_sm (x := x) hy x1
        rw [hj, G.pw_sm hy x1 x2, hx2]
        exact ((G.rp_eq hy G.el (G.cl _ _ G.el (G.pw_lt hy _))).2 (G.sm_of hy _)).symm
      · rintro ⟨hw, h⟩
        obtain ⟨w1, w2, w3⟩ := mem_quo.1 hw
        rw [decide_eq_true_eq, G.quo_pw hy w1 w2] at h
        obtain ⟨j, hj, h⟩ := (G.rp_eq hy G.el (G.pw_lt w1 s)).1 h.symm
        rw [G.one_l _ (G.pw_lt hy j)] at h
        obtain ⟨k, hk, hke⟩ := inj_onto (n := ord n f e y) (f := fun k => k * s % ord n f e y) (fun i _ => Nat.mod_lt _ ho) (fun i i' hi hi' he => by
          have he' : i * s % ord n f e y = i' * s % ord n f e y := he
          have hp : ∀ {i i' : Nat}, i < ord n f e y → i' < ord n f e y → i ≤ i' → i * s % ord n f e y = i' * s % ord n f e y → i = i' := by
            intro i i' hi hi' hle he
            have h1 : ord n f e y ∣ i' * s - i * s := Nat.dvd_of_mod_eq_zero (Nat.sub_mod_eq_zero_of_mod_eq he.symm)
            rw [← Nat.sub_mul] at h1
            have h2 : ord n f e y ∣ i' - i := Nat.Coprime.dvd_of_dvd_mul_right hs h1
            rcases Nat.eq_zero_or_pos (i' - i) with h | h
            · omega
            · have := Nat.le_of_dvd h h2; omega
          rcases Nat.le_total i i' with hl | hl
          · exact hp hi hi' hl he'
          · exact (hp hi' hi hl he'.symm).symm) (Nat.mod_lt (ord n f e y - j) ho)
        have hke' : k * s % ord n f e y = (ord n f e y - j) % ord n f e y := hke
        have hlt := G.cl _ _ w1 (G.pw_lt hy k)
        refine ⟨f w (pw f e y k), List.mem_filter.2 ⟨mem_mem.2 ⟨hlt, (G.cen_sub hy).mul w (pw f e y k) w1 (G.pw_lt hy k) (cen_iff.2 w2) (cen_iff.2 (G.cen_pw hy hy rfl k).symm)⟩, ?_⟩, ?_⟩
        · rw [decide_eq_true_eq, G.pw_sm hy w1 w2, h, ← G.pw_mod hy (k * s), hke', G.pw_mod hy, ← G.pw_add hy, Nat.add_sub_cancel' (by omega), G.pw_ord hy]
        · rw [← (G.rp_eq hy w1 hlt).2 (G.sm_of hy k), w3]
  rw [← hl, List.length_map]
end
end Go.Proofs.Ytmkebnaedgdeaaa
