/-
  The laws on roots of conjugates and on commuting words: plain laws, with no program in sight. Conditions: none.
-/
import Derived.Test.YthmgpgkfeknhgaaM6
set_option linter.all false
namespace Go.Proofs.Ythmgpgkfeknhgaa
open Go.Pv

theorem root_cases {w : List Int} (h : (check w).1 = 0) : (short w = [] ∧ rootS w = ([], 0, (6, 0))) ∨
    (short w ≠ [] ∧ ∃ u p n, 1 ≤ n ∧ Red u ∧ Cyc p ∧ Prim p ∧ short w = u ++ rep n p ++ back u ∧ rootS w = (short (u ++ p ++ back u), ((n : Nat) : Int), (0, 0))) := by
  by_cases hs : short w = []
  · refine .inl ⟨hs, ?_⟩
    unfold rootS
    rw [if_neg (by simp [h]), hs, if_pos (by simp [cut])]
  · obtain ⟨u, p, n, h1, h2, h3, h4, h5⟩ := form_of (check_ok h).1 hs
    refine .inr ⟨hs, u, p, n, h1, h2, h3, h4, h5, root_of h h1 h2 h3 h4 ?_⟩
    rw [← h5, short_short]

theorem turn_form (x u p : List Int) (m : Nat) : short (back x ++ short (u ++ rep m p ++ back u) ++ x) = short (short (back x ++ u) ++ rep m p ++ back (short (back x ++ u))) := by
  rw [short_mid, short_conj, back_app, back_back]
  simp

/-- FREE TURNS. -/
theorem turns_law {w x : List Int} {n : Nat} (hn : 1 ≤ n) (hw : (check w).1 = 0) (hx : (check x).1 = 0) (hl : w.length * n + 2 * x.length ≤ 1900) :
    (check (short (back x ++ short (rep n w) ++ x))).1 = 0 ∧
    ((short w = [] ∧ rootS w = ([], 0, (6, 0)) ∧ rootS (short (back x ++ short (rep n w) ++ x)) = ([], 0, (6, 0))) ∨
     ∃ a b : List Int, ∃ k : Nat, 1 ≤ k ∧ k ≤ 2000 ∧ a.length ≤ 2000 ∧ Sm a ∧ rootS w = (a, (k : Int), (0, 0)) ∧ rootS (short (back x ++ short (rep n w) ++ x)) = (b, ((k * n : Nat) : Int), (0, 0)) ∧ short (back x ++ a ++ x) = b) := by
  obtain ⟨ow, lw⟩ := check_ok hw
  obtain ⟨ox, lx⟩ := check_ok hx
  have hrl := rep_len n w
  have hro : Ok (rep n w) := by
    intro y hy
    unfold rep at hy
    obtain ⟨l, h1, h2⟩ := List.mem_flatten.1 hy
    rw [(List.mem_replicate.1 h1).2] at h2
    exact ow y h2
  have hoi : Ok (back x ++ short (rep n w) ++ x) := (ox.back.app hro.short).app ox
  have hle := short_len (back x ++ short (rep n w) ++ x)
  have hle2 := short_len (rep n w)
  simp only [List.length_append, back_len] at hle
  rw [hrl, Nat.mul_comm] at hle2
  have hck : (check (short (back x ++ short (rep n w) ++ x))).1 = 0 := by rw [ok_check hoi.short (by omega)]
  refine ⟨hck, ?_⟩
  rcases root_cases hw with ⟨h1, h2⟩ | ⟨h1, u, p, k, h2, h3, h4, h5, h6, h7⟩
  · refine .inl ⟨h1, h2, ?_⟩
    have e : short (back x ++ short (rep n w) ++ x) = [] := by
      rw [← rep_short, h1, rep_nil]
      rw [show short ([] : List Int) = [] from rfl, List.append_nil, short_inv']
    unfold rootS
    rw [if_neg (by rw [hck]; simp), short_short, e, if_pos (by simp [cut])]
  · refine .inr ⟨_, _, k, h2, ?_, ?_, ?_, h7, root_of (y := short (back x ++ u)) (p := p) hck (Nat.mul_pos h2 hn) (red_short _) h4 h5 ?_, ?_⟩
    · have e1 := congrArg List.length h6
      have e2 := short_len w
      simp only [List.length_append, back_len, rep_len] at e1
      have := Nat.le_mul_of_pos_right k h4.pos
      omega
    · have e1 := congrArg List.length h6
      have e2 := short_len w
      have e3 := short_len (u ++ p ++ back u)
      simp only [List.length_append, back_len, rep_len] at e1 e3
      have := Nat.le_mul_of_pos_left p.length h2
      omega
    · have : Ok (short w) := ow.short
      rw [h6] at this
      have hp : Ok p := by
        intro y hy
        refine this y ?_
        simp only [List.mem_append]
        obtain ⟨m, rfl⟩ : ∃ m, k = m + 1 := ⟨k - 1, by omega⟩
        rw [rep_succ]
        simp [hy]
      have hu : Ok u := fun y hy => this y (by simp [hy])
      exact ((hu.app hp).app hu.back).short.sm
    · rw [short_short, ← rep_short, h6, short_pow, ← rep_mul, turn_form]
    · have := turn_form x u p 1
      rw [rep_one] at this
      exact this

theorem comm_inv {x y : List Int} (h : short (x ++ y) = short (y ++ x)) : short (x ++ back y) = short (back y ++ x) := by
  have e1 : short (back y ++ y ++ x ++ back y) = short (x ++ back y) := by
    rw [List.append_assoc, ← short_left, short_inv', List.nil_append]
  have e2 : short (back y ++ y ++ x ++ back y) = short (back y ++ x) := by
    have : back y ++ y ++ x ++ back y = back y ++ (y ++ x) ++ back y := by simp
    rw [this, ← short_mid, ← h, short_mid]
    have : back y ++ (x ++ y) ++ back y = back y ++ x ++ (y ++ back y) := by simp
    rw [this, ← short_right, short_inv, List.append_nil]
  rw [← e1, e2]

theorem comm_short {x y : List Int} : short (short x ++ short y) = short (x ++ y) := by rw [short_left, short_right]

/-- FREE COMMUTES. -/
theorem comm_triv {v w : List Int} (h : short v = [] ∨ short w = []) : short (v ++ w) = short (w ++ v) := by
  rw [← comm_short, ← comm_short (x := w)]
  rcases h with h | h <;> rw [h] <;> simp

theorem comm_law {v w : List Int} (hv : (check v).1 = 0) (hw : (check w).1 = 0) (h1 : short v ≠ []) (h2 : short w ≠ []) :
    (invS (rootS w).1).2.1 = 0 ∧ (short (v ++ w) = short (w ++ v) ↔ (rootS v).1 = (rootS w).1 ∨ (rootS v).1 = (invS (rootS w).1).1) := by
  rcases root_cases hv with ⟨h, _⟩ | ⟨_, u, p, k, a1, a2, a3, a4, a5, a6⟩
  · exact absurd h h1
  rcases root_cases hw with ⟨h, _⟩ | ⟨_, u', p', k', b1, b2, b3, b4, b5, b6⟩
  · exact absurd h h2
  obtain ⟨ow, lw⟩ := check_ok hw
  have ock : check (rootS w).1 = (0, 0) := by
    rw [b6]
    have o2 : Ok (short w) := ow.short
    rw [b5] at o2
    have hp : Ok p' := by
      intro y hy
      refine o2 y ?_
      simp only [List.mem_append]
      obtain ⟨m, rfl⟩ : ∃ m, k' = m + 1 := ⟨k' - 1, by omega⟩
      rw [rep_succ]
      simp [hy]
    have hu : Ok u' := fun y hy => o2 y (by simp [hy])
    refine ok_check ((hu.app hp).app hu.back).short ?_
    have e1 := congrArg List.length b5
    have e2 := short_len w
    have e3 := short_len (u' ++ p' ++ back u')
    simp only [List.length_append, back_len, rep_len] at e1 e3
    have := Nat.le_mul_of_pos_left p'.length b1
    show (short (u' ++ p' ++ back u')).length ≤ 2000
    omega
  have hinv : invS (rootS w).1 = (short (back (rootS w).1), (0, 0)) := by
    unfold invS; rw [ock, if_neg (by simp)]
  refine ⟨by rw [hinv], ?_⟩
  rw [hinv]
  constructor
  · intro hc
    -- conjugate all by u
    have hw' : short (short (back u ++ w ++ u) ++ rep k p) = short (rep k p ++ short (back u ++ w ++ u)) := by
      have ev : short (rep k p) = short (back u ++ v ++ u) := by
        have e0 : short (back u ++ v ++ u) = short (back u ++ (u ++ rep k p ++ back u) ++ u) := by rw [← a5, short_mid]
        rw [e0]
        have : back u ++ (u ++ rep k p ++ back u) ++ u = (back u ++ u) ++ (rep k p ++ (back u ++ u)) := by simp
        rw [this, ← short_left, short_inv', List.nil_append, ← short_right, short_inv', List.append_nil]
      rw [short_left, short_right, ← short_right, ev, short_right, ← short_left (rep k p), ev, short_left]
      have e1 : back u ++ w ++ u ++ (back u ++ v ++ u) = (back u ++ w) ++ (u ++ back u) ++ (v ++ u) := by simp
      have e2 : back u ++ v ++ u ++ (back u ++ w ++ u) = (back u ++ v) ++ (u ++ back u) ++ (w ++ u) := by simp
      rw [e1, e2, ← short_mid, ← short_mid (back u ++ v), short_inv]
      simp only [List.append_nil, List.nil_append]
      have e3 : back u ++ w ++ (v ++ u) = back u ++ (w ++ v) ++ u := by simp
      have e4 : back u ++ v ++ (w ++ u) = back u ++ (v ++ w) ++ u := by simp
      rw [e3, e4, ← short_mid, ← hc, short_mid]
    have hback : ∀ z, short (short (back u ++ w ++ u)) = short z → short w = short (u ++ z ++ back u) := by
      intro z hz
      rw [short_short] at hz
      rw [← short_mid, ← hz, short_mid]
      have : u ++ (back u ++ w ++ u) ++ back u = (u ++ back u) ++ (w ++ (u ++ back u)) := by simp
      rw [this, ← short_left, short_inv, List.nil_append, ← short_right, short_inv, List.append_nil]
    obtain ⟨m, hm | hm⟩ := comm_form a1 (red_short _) a3 a4 hw'
    · have hz := hback _ hm
      have hm1 : 1 ≤ m := by
        rcases Nat.eq_zero_or_pos m with e | e
        · subst e
          rw [rep_zero, List.append_nil, short_inv] at hz
          exact absurd hz h2
        · exact e
      left
      rw [a6, root_of hw hm1 a2 a3 a4 hz]
    · rw [back_rep] at hm
      have hz := hback _ hm
      have hm1 : 1 ≤ m := by
        rcases Nat.eq_zero_or_pos m with e | e
        · subst e
          rw [rep_zero, List.append_nil, short_inv] at hz
          exact absurd hz h2
        · exact e
      right
      have hpb : Prim (back p) := by
        intro d hd
        rw [back_len]
        refine a4 d ?_
        intro i hi
        have h0 := a3.pos
        have hl : (back p).length = p.length := back_len p
        have key := hd (p.length - 1 - ((i + d) % p.length)) (by rw [hl]; omega)
        have hm2 := Nat.mod_lt (i + d) h0
        rw [hl, back_getD (Nat.mod_lt _ h0), back_getD (by omega)] at key
        have e1 : p.length - 1 - (p.length - 1 - (i + d) % p.length) = (i + d) % p.length := by omega
        have e2 : p.length - 1 - (p.length - 1 - (i + d) % p.length + d) % p.length = i := by
          have h3 : p.length - 1 - (i + d) % p.length + d = (p.length - 1 - i) + p.length * ((i + d) / p.length) := by
            have := Nat.div_add_mod (i + d) p.length
            omega
          rw [h3, Nat.add_mul_mod_self_left, Nat.mod_eq_of_lt (by omega)]
          omega
        rw [e1, e2] at key
        omega
      rw [a6, root_of hw hm1 a2 a3.bk hpb hz]
      simp only
      rw [short_back, back_app, back_app, back_back, back_back]
      simp
  · intro hc
    rw [a6, b6] at hc
    simp only at hc
    -- v, w are powers of the roots
    have ev : short v = short (rep k (short (u ++ p ++ back u))) := by rw [rep_short, short_pow, ← a5, short_short]
    have ew : short w = short (rep k' (short (u' ++ p' ++ back u'))) := by rw [rep_short, short_pow, ← b5, short_short]
    rw [← comm_short, ← comm_short (x := w), ev, ew, comm_short, comm_short]
    generalize short (u ++ p ++ back u) = a at *
    generalize short (u' ++ p' ++ back u') = b at *
    rcases hc with rfl | rfl
    · rw [← rep_add, ← rep_add, Nat.add_comm]
    · have e : short (rep k (short (back b))) = short (back (rep k b)) := by rw [rep_short, back_rep]
      rw [← comm_short, e, comm_short, ← comm_short (x := rep k' b), e, comm_short]
      exact (comm_inv (by rw [← rep_add, ← rep_add, Nat.add_comm])).symm

end Go.Proofs.Ythmgpgkfeknhgaa
