/-
  Texts of this proof, one behind the other: what each says stands at its head. Conditions: none.
-/
import Derived.Test.YtneglephfhiamaaProg
import Derived.Test.YtneglephfhiamaaB3
import Derived.Test.YtneglephfhiamaaB4

namespace Go.Proofs.Ytneglephfhiamaa
open Go.Pv
def tab : TypeId → Option TI
  | 1 => some ⟨.other, 1, 8, [.nilFunc], false⟩
  | 2 => some ⟨.int .i64, 1, 8, [.int .i64 0], false⟩
  | 3 => some ⟨.int .i64, 1, 8, [.int .i64 0], false⟩
  | 4 => some ⟨.bool, 1, 1, [.bool false], false⟩
  | 5 => some ⟨.int .u8, 1, 1, [.int .u8 0], false⟩
  | 9 => some ⟨.str, 1, 16, [.string ⟨#[]⟩], false⟩
  | 12 => some ⟨.int .u64, 1, 8, [.int .u64 0], false⟩
  | 21 => some ⟨.int .i32, 1, 4, [.int .i32 0], false⟩
  | 22 => some ⟨.slice 35, 1, 24, [.slice none 0 0], false⟩
  | 26 => some ⟨.struct [(0, 3, 1), (1, 3, 1)], 2, 16, [.int .i64 0, .int .i64 0], true⟩
  | 29 => some ⟨.other, 1, 8, [.nilFunc], false⟩
  | 33 => some ⟨.slice 73, 1, 24, [.slice none 0 0], false⟩
  | 35 => some ⟨.slice 3, 1, 24, [.slice none 0 0], false⟩
  | 39 => some ⟨.other, 1, 8, [.nilFunc], false⟩
  | 43 => some ⟨.other, 1, 8, [.nilFunc], false⟩
  | 65 => some ⟨.struct [(0, 3, 1), (1, 35, 1)], 2, 32, [.int .i64 0, .slice none 0 0], false⟩
  | 70 => some ⟨.other, 1, 8, [.pointer none], false⟩
  | 73 => some ⟨.array 3 3, 3, 24, [.int .i64 0, .int .i64 0, .int .i64 0], false⟩
  | 78 => some ⟨.map 3 35 (some (.slice none 0 0)), 1, 8, [.map none], false⟩
  | 81 => some ⟨.map 3 3 (some (.int .i64 0)), 1, 8, [.map none], false⟩
  | 82 => some ⟨.slice 81, 1, 24, [.slice none 0 0], false⟩
  | 84 => some ⟨.struct [(0, 82, 1), (1, 35, 1)], 2, 48, [.slice none 0 0, .slice none 0 0], false⟩
  | 85 => some ⟨.slice 22, 1, 24, [.slice none 0 0], false⟩
  | 86 => some ⟨.map 88 3 (some (.int .i64 0)), 1, 8, [.map none], false⟩
  | 88 => some ⟨.array 2 3, 2, 16, [.int .i64 0, .int .i64 0], false⟩
  | 89 => some ⟨.slice 88, 1, 24, [.slice none 0 0], false⟩
  | 92 => some ⟨.other, 1, 8, [.nilFunc], false⟩
  | 98 => some ⟨.other, 1, 8, [.pointer none], false⟩
  | 108 => some ⟨.struct [], 0, 0, [], false⟩
  | 110 => some ⟨.struct [(0, 3, 1), (1, 22, 1), (2, 35, 1), (3, 3, 1)], 4, 64, [.int .i64 0, .slice none 0 0, .slice none 0 0, .int .i64 0], false⟩
  | 113 => some ⟨.struct [(0, 3, 1), (1, 3, 1), (2, 3, 1)], 3, 24, [.int .i64 0, .int .i64 0, .int .i64 0], false⟩
  | 114 => some ⟨.slice 113, 1, 24, [.slice none 0 0], false⟩
  | 117 => some ⟨.int .u64, 1, 8, [.int .u64 0], false⟩
  | 119 => some ⟨.int .i64, 1, 8, [.int .i64 0], false⟩
  | 127 => some ⟨.int .u32, 1, 4, [.int .u32 0], false⟩
  | 129 => some ⟨.int .u64, 1, 8, [.int .u64 0], false⟩
  | 130 => some ⟨.int .u64, 1, 8, [.int .u64 0], false⟩
  | 137 => some ⟨.other, 1, 8, [.pointer none], false⟩
  | _ => none
theorem tab_1 : tiOf Try.prog 1 = some ⟨.other, 1, 8, [.nilFunc], false⟩ := by kernel_rfl
theorem tab_2 : tiOf Try.prog 2 = some ⟨.int .i64, 1, 8, [.int .i64 0], false⟩ := by kernel_rfl
theorem tab_3 : tiOf Try.prog 3 = some ⟨.int .i64, 1, 8, [.int .i64 0], false⟩ := by kernel_rfl
theorem tab_4 : tiOf Try.prog 4 = some ⟨.bool, 1, 1, [.bool false], false⟩ := by kernel_rfl
theorem tab_5 : tiOf Try.prog 5 = some ⟨.int .u8, 1, 1, [.int .u8 0], false⟩ := by kernel_rfl
theorem tab_9 : tiOf Try.prog 9 = some ⟨.str, 1, 16, [.string ⟨#[]⟩], false⟩ := by kernel_rfl
theorem tab_12 : tiOf Try.prog 12 = some ⟨.int .u64, 1, 8, [.int .u64 0], false⟩ := by kernel_rfl
theorem tab_21 : tiOf Try.prog 21 = some ⟨.int .i32, 1, 4, [.int .i32 0], false⟩ := by kernel_rfl
theorem tab_22 : tiOf Try.prog 22 = some ⟨.slice 35, 1, 24, [.slice none 0 0], false⟩ := by kernel_rfl
theorem tab_26 : tiOf Try.prog 26 = some ⟨.struct [(0, 3, 1), (1, 3, 1)], 2, 16, [.int .i64 0, .int .i64 0], true⟩ := by kernel_rfl
theorem tab_29 : tiOf Try.prog 29 = some ⟨.other, 1, 8, [.nilFunc], false⟩ := by kernel_rfl
theorem tab_33 : tiOf Try.prog 33 = some ⟨.slice 73, 1, 24, [.slice none 0 0], false⟩ := by kernel_rfl
theorem tab_35 : tiOf Try.prog 35 = some ⟨.slice 3, 1, 24, [.slice none 0 0], false⟩ := by kernel_rfl
theorem tab_39 : tiOf Try.prog 39 = some ⟨.other, 1, 8, [.nilFunc], false⟩ := by kernel_rfl
theorem tab_43 : tiOf Try.prog 43 = some ⟨.other, 1, 8, [.nilFunc], false⟩ := by kernel_rfl
theorem tab_65 : tiOf Try.prog 65 = some ⟨.struct [(0, 3, 1), (1, 35, 1)], 2, 32, [.int .i64 0, .slice none 0 0], false⟩ := by kernel_rfl
theorem tab_70 : tiOf Try.prog 70 = some ⟨.other, 1, 8, [.pointer none], false⟩ := by kernel_rfl
theorem tab_73 : tiOf Try.prog 73 = some ⟨.array 3 3, 3, 24, [.int .i64 0, .int .i64 0, .int .i64 0], false⟩ := by kernel_rfl
theorem tab_78 : tiOf Try.prog 78 = some ⟨.map 3 35 (some (.slice none 0 0)), 1, 8, [.map none], false⟩ := by kernel_rfl
theorem tab_81 : tiOf Try.prog 81 = some ⟨.map 3 3 (some (.int .i64 0)), 1, 8, [.map none], false⟩ := by kernel_rfl
theorem tab_82 : tiOf Try.prog 82 = some ⟨.slice 81, 1, 24, [.slice none 0 0], false⟩ := by kernel_rfl
theorem tab_84 : tiOf Try.prog 84 = some ⟨.struct [(0, 82, 1), (1, 35, 1)], 2, 48, [.slice none 0 0, .slice none 0 0], false⟩ := by kernel_rfl
theorem tab_85 : tiOf Try.prog 85 = some ⟨.slice 22, 1, 24, [.slice none 0 0], false⟩ := by kernel_rfl
theorem tab_86 : tiOf Try.prog 86 = some ⟨.map 88 3 (some (.int .i64 0)), 1, 8, [.map none], false⟩ := by kernel_rfl
theorem tab_88 : tiOf Try.prog 88 = some ⟨.array 2 3, 2, 16, [.int .i64 0, .int .i64 0], false⟩ := by kernel_rfl
theorem tab_89 : tiOf Try.prog 89 = some ⟨.slice 88, 1, 24, [.slice none 0 0], false⟩ := by kernel_rfl
theorem tab_92 : tiOf Try.prog 92 = some ⟨.other, 1, 8, [.nilFunc], false⟩ := by kernel_rfl
theorem tab_98 : tiOf Try.prog 98 = some ⟨.other, 1, 8, [.pointer none], false⟩ := by kernel_rfl
theorem tab_108 : tiOf Try.prog 108 = some ⟨.struct [], 0, 0, [], false⟩ := by kernel_rfl
theorem tab_110 : tiOf Try.prog 110 = some ⟨.struct [(0, 3, 1), (1, 22, 1), (2, 35, 1), (3, 3, 1)], 4, 64, [.int .i64 0, .slice none 0 0, .slice none 0 0, .int .i64 0], false⟩ := by kernel_rfl
theorem tab_113 : tiOf Try.prog 113 = some ⟨.struct [(0, 3, 1), (1, 3, 1), (2, 3, 1)], 3, 24, [.int .i64 0, .int .i64 0, .int .i64 0], false⟩ := by kernel_rfl
theorem tab_114 : tiOf Try.prog 114 = some ⟨.slice 113, 1, 24, [.slice none 0 0], false⟩ := by kernel_rfl
theorem tab_117 : tiOf Try.prog 117 = some ⟨.int .u64, 1, 8, [.int .u64 0], false⟩ := by kernel_rfl
theorem tab_119 : tiOf Try.prog 119 = some ⟨.int .i64, 1, 8, [.int .i64 0], false⟩ := by kernel_rfl
theorem tab_127 : tiOf Try.prog 127 = some ⟨.int .u32, 1, 4, [.int .u32 0], false⟩ := by kernel_rfl
theorem tab_129 : tiOf Try.prog 129 = some ⟨.int .u64, 1, 8, [.int .u64 0], false⟩ := by kernel_rfl
theorem tab_130 : tiOf Try.prog 130 = some ⟨.int .u64, 1, 8, [.int .u64 0], false⟩ := by kernel_rfl
theorem tab_137 : tiOf Try.prog 137 = some ⟨.other, 1, 8, [.pointer none], false⟩ := by kernel_rfl
theorem tab_ok : ∀ t ti, tab t = some ti → tiOf Try.prog t = some ti := by
  intro t ti h
  unfold tab at h
  split at h
  · cases h; exact tab_1
  · cases h; exact tab_2
  · cases h; exact tab_3
  · cases h; exact tab_4
  · cases h; exact tab_5
  · cases h; exact tab_9
  · cases h; exact tab_12
  · cases h; exact tab_21
  · cases h; exact tab_22
  · cases h; exact tab_26
  · cases h; exact tab_29
  · cases h; exact tab_33
  · cases h; exact tab_35
  · cases h; exact tab_39
  · cases h; exact tab_43
  · cases h; exact tab_65
  · cases h; exact tab_70
  · cases h; exact tab_73
  · cases h; exact tab_78
  · cases h; exact tab_81
  · cases h; exact tab_82
  · cases h; exact tab_84
  · cases h; exact tab_85
  · cases h; exact tab_86
  · cases h; exact tab_88
  · cases h; exact tab_89
  · cases h; exact tab_92
  · cases h; exact tab_98
  · cases h; exact tab_108
  · cases h; exact tab_110
  · cases h; exact tab_113
  · cases h; exact tab_114
  · cases h; exact tab_117
  · cases h; exact tab_119
  · cases h; exact tab_127
  · cases h; exact tab_129
  · cases h; exact tab_130
  · cases h; exact tab_137
  · cases h
theorem mixed : Try.prog.follows .mixedOrders = true := by kernel_rfl
end Go.Proofs.Ytneglephfhiamaa

set_option linter.all false
namespace Go.Pv
open Go.RowKit
def tl (M : List (List Int)) : Heap := M.map fun v => .own (ol v)
def fr (M : List (List Int)) : Heap := M.map fun v => .fro (il v)
theorem hget_eq : ∀ (H : Heap) (k : Nat), hget H k = H.getD k .dead
  | [], k => by simp [hget]
  | b :: r, 0 => by simp [hget]
  | b :: r, k + 1 => by rw [hget, hget_eq r k]; simp
theorem hset_eq : ∀ (H : Heap) (k : Nat) (b : Blk), hset H k b = H.set k b
  | [], k, b => by simp [hset]
  | x :: r, 0, b => by simp [hset]
  | x :: r, k + 1, b => by rw [hset, hset_eq r k]; simp
theorem hget_snoc (A : Heap) (x : Blk) : hget (A ++ [x]) A.length = x := by
  rw [hget_app2 (Nat.le_refl _), Nat.sub_self]; rfl
section
variable {P : Program} {c : Code} {Q : Exit → St → Prop}
end
end Go.Pv

namespace Go.Pv
open Go.RowKit
theorem ren1_id {L : Nat} {x : AV} (h : sc1 L x = true) : ren1 (List.range L) x = x := by
  have hg : ∀ k, k < L → (List.range L).getD k 0 = k := fun k hk => by simp [List.getD, List.getElem?_range hk]
  cases x <;> simp only [sc1, decide_eq_true_eq] at h <;> first | rfl | (simp only [ren1, hg _ h])
theorem ren_id {L : Nat} {x : AV} (h : scA L x = true) : Go.Pv.ren (List.range L) x = x := by
  have hg : ∀ k, k < L → (List.range L).getD k 0 = k := fun k hk => by simp [List.getD, List.getElem?_range hk]
  have hm : ∀ l : List AV, l.all (sc1 L) = true → l.map (ren1 (List.range L)) = l := fun l hl => by
    have := List.map_congr_left (f := ren1 (List.range L)) (g := id) fun x hx => ren1_id ((List.all_eq_true.1 hl) x hx)
    rw [this, List.map_id]
  cases x with
  | agg l => simp only [Go.Pv.ren]; rw [hm l h]
  | tup l => simp only [Go.Pv.ren]; rw [hm l h]
  | cl f l => simp only [Go.Pv.ren]; rw [hm l h]
  | yv k l vs =>
    simp only [scA, Bool.and_eq_true, decide_eq_true_eq] at h
    simp only [Go.Pv.ren]; rw [hm l h.2, hg _ h.1]
  | _ => simp only [Go.Pv.ren]; exact ren1_id (by simpa only [scA] using h)
def hsc (L : Nat) : Blk → Bool
  | .own c => c.all (scA L)
  | .anc _ j => decide (j < L)
  | _ => true
theorem leH_same {L : Nat} {H : Heap} (hs : ∀ b ∈ H, hsc L b = true) : ∀ (H1 : Heap) (a : Nat), (∀ i, i < H1.length → hget H (a + i) = hget H1 i) → (∀ b ∈ H1, b ∈ H) → a + H1.length ≤ L → LeH (List.range L) H (List.range' a H1.length) H1
  | [], a, _, _, _ => trivial
  | b :: r, a, h, hm, hl => by
    rw [List.length_cons] at hl ⊢
    rw [List.range'_succ]
    refine ⟨?_, leH_same hs r (a + 1) (fun i hi => ?_) (fun x hx => hm x (by simp [hx])) (by omega)⟩
    · have h0 := h 0 (by simp)
      simp only [hget, Nat.add_zero] at h0
      have hb := hs b (hm b (by simp))
      cases b with
      | own c =>
        simp only [LeB, h0, List.length_range]
        refine ⟨?_, hb⟩
        rw [List.take_of_length_le (Nat.le_refl _)]
        have := List.map_congr_left (f := Go.Pv.ren (List.range L)) (g := id) fun x hx => ren_id ((List.all_eq_true.1 hb) x hx)
        rw [this, List.map_id]
      | anc i j =>
        simp only [hsc, decide_eq_true_eq] at hb
        simp only [LeB, h0, List.length_range]
        refine ⟨?_, hb⟩
        simp [List.getD, List.getElem?_range hb]
      | dead => trivial
      | _ => simp only [LeB, h0]
    · have := h (i + 1) (by simp; omega)
      rw [show a + 1 + i = a + (i + 1) by omega, this]; rfl
theorem LeS_same {L : Nat} {s : St} : ∀ {l : List (Nat × AV)}, (∀ p ∈ l, s.get p.1 = p.2 ∧ scA L p.2 = true) → LeS (List.range L) l s
  | [], _ => trivial
  | (t, x) :: r, h => by
    obtain ⟨h1, h2⟩ := h (t, x) (by simp)
    refine ⟨by rw [ren_id h2]; exact h1, by rw [List.length_range]; exact h2, LeS_same fun p hp => h p (by simp [hp])⟩
theorem le_same {S s : St} (hn : S.n = s.n) (hH : S.H = s.H) (hs : ∀ b ∈ s.H, hsc s.H.length b = true) (hsl : ∀ p ∈ S.sl, s.get p.1 = p.2 ∧ scA s.H.length p.2 = true) : Le (List.range s.H.length) S s := by
  refine ⟨hn, List.nodup_range, ?_, LeS_same hsl⟩
  rw [hH]
  have := leH_same hs s.H 0 (fun i _ => by rw [Nat.zero_add]) (fun b hb => hb) (by omega)
  rwa [← List.range_eq_range'] at this
theorem ancs_hsc {L k n : Nat} (h : k + n ≤ L) : ∀ b ∈ ancs k n, hsc L b = true := fun b hb => by
  obtain ⟨j, hj⟩ := List.getElem?_of_mem hb
  obtain ⟨h1, rfl⟩ := ancs_get _ _ _ _ hj
  simp [hsc]; omega
end Go.Pv

namespace Go.Pv
open Go.RowKit
section
variable {P : Program} {T : TypeId → Option TI} {s : St}
def DoesE (P : Program) (o : Oper) (s : St) (O : AV → Heap → Prop) : Prop :=
  ∀ C m (a : Act) w (K : Act → World → Prop) (Q : Exit → Act → World → Prop), Rel C m s a.tmps w →
    (∀ v m' w' av H', O av H' → Rel C m' { s with H := H' } a.tmps w' → AVal (Reads (OK C m' H' w') w') m' H' av v → K (a.put o.dst v) w') → opR P o a w K Q
theorem Run1.soundK {all : Array Oper} {Q : Exit → Act → World → Prop} {C : Ctx} {ds : List Deferred} {rest : List Oper} : ∀ {ops : List Oper} {s s' : St} {draw : Bool}, Run1 P draw all ops s s' → ∀ {m : Map} {a : Act} {w : World}, Rel C m s a.tmps w → a.defers = ds →
    (∀ m' (a' : Act) w', Rel C m' s' a'.tmps w' → a'.defers = ds → lstR P all Q rest a' w') → lstR P all Q (ops ++ rest) a w := by
  intro ops
  induction ops with
  | nil =>
    intro s s' draw h m a w R hd hQ
    cases h
    exact hQ m a w R hd
  | cons o r ih =>
    intro s s' draw h m a w R hd hQ
    cases h with
    | cons h hr =>
      cases h with
      | skip hg hlt =>
        have hw := guardA_wanted (P := P) R hg
        refine lstR_skip hw (ih hr (m := m) ?_ (by rw [put_defers]; exact hd) hQ)
        exact R.put hlt (.p _ _ reads_un)
      | op av H' hg hlt h hl =>
        have hw := guardA_wanted (P := P) R hg
        refine lstR_step fun K hK => ?_
        rw [if_pos hw]
        refine h C m a w K Q R fun v m' w' R' hv => hK _ _ (ih hr (m := m') ?_ (by rw [put_defers]; exact hd) hQ)
        exact R'.put hlt hv
def FnE (P : Program) (f : FuncId) (args : List AV) (H0 : Heap) (Post : AV → Heap → Prop) : Prop :=
  Fun P f ∧ ∀ (C : Ctx) (m : Map) (w : World) (vals : Array Value), Rel C m ⟨args.length, entA 0 args, H0 ++ ancs 0 H0.length⟩ vals w →
    Calls P f vals w fun e w' => ∃ v m' r H1, Post r H1 ∧ e = .returned v ∧ Rel C m' ⟨1, [(0, r)], H1 ++ ancs 0 H0.length⟩ #[v] w'
theorem FnM.toE {f : FuncId} {args : List AV} {H0 H1 : Heap} {r : AV} (h : FnM P f args H0 r H1) : FnE P f args H0 (fun r' H' => r' = r ∧ H' = H1) :=
  ⟨h.1, fun C m w vals R => (h.2 C m w vals R).mono fun e w' ⟨v, m', he, R'⟩ => ⟨v, m', r, H1, ⟨rfl, rfl⟩, he, R'⟩⟩
theorem FnE.mono {f : FuncId} {args : List AV} {H0 : Heap} {Post Post' : AV → Heap → Prop} (h : FnE P f args H0 Post) (hp : ∀ r H, Post r H → Post' r H) : FnE P f args H0 Post' :=
  ⟨h.1, fun C m w vals R => (h.2 C m w vals R).mono fun e w' ⟨v, m', r, H1, hP, he, R'⟩ => ⟨v, m', r, H1, hp r H1 hP, he, R'⟩⟩
theorem FnE.one {f : FuncId} {args : List AV} {H0 H1 : Heap} {r : AV} {Post : AV → Heap → Prop} (h : FnE P f args H0 Post) (hp : ∀ r' H', Post r' H' → r' = r ∧ H' = H1) : FnM P f args H0 r H1 :=
  ⟨h.1, fun C m w vals R => (h.2 C m w vals R).mono fun e w' ⟨v, m', r', H', hP, he, R'⟩ => by obtain ⟨rfl, rfl⟩ := hp r' H' hP; exact ⟨v, m', he, R'⟩⟩
theorem call_doesE {o : Oper} {fo : Operand} {args : Array Operand} {ts : Array TypeId} (ho : o.op = .call { callee := .value fo, args := args, argTypes := ts }) {g : FuncId} {cap : List PV} (hfo : s.ev fo = .p (.fn g cap)) {ks : List Nat} {avs : List AV} {H0 : Heap} {Post : AV → Heap → Prop}
    (hc : FnE P g avs H0 Post) (hargs : argsM s.H ks (args.toList.map s.ev ++ cap.map .p) avs) (hle : LeH ks s.H ks H0) (hnd : ks.Nodup) (hks : ∀ k ∈ ks, k < s.H.length) (h0 : H0.all notAnc = true) (hsc : ∀ r H1, Post r H1 → scM r H0 H1 = true) :
    DoesE P o s (fun av H' => ∃ r H1, Post r H1 ∧ av = Go.Pv.ren (ks ++ List.range' s.H.length (H1.length - ks.length)) r ∧ H' = putM s.H ks (H1.map (Blk.ren (ks ++ List.range' s.H.length (H1.length - ks.length))))) := by
  intro C m a w K Q R hK
  have hfv := R.ev fo
  rw [hfo] at hfv
  generalize hfe : a.eval fo = fv at hfv
  have hfv := hfv.p_inv
  cases hfv with
  | fn _ _ vs hcl hcr =>
    obtain ⟨⟨fn, hfn, hnm, hbd⟩, hcalls⟩ := hc
    have hrun : (execOp a.eval o).run P w = .ok (.enter g (args.map a.eval ++ vs)) w := by
      have hnm' : ¬ fn.name = "runtime.NumGoroutine" := by simpa using hnm
      have hbd' : ¬ fn.body = none := by intro e; rw [e] at hbd; simp at hbd
      simp [execOp, ho, resolve, hfe, Deferred.ofValue, invoke, callFunc, hfn, hnm', hbd']
    refine opR_of_wp (by first | rfl | (rw [ho]; rfl)) ?_
    unfold Oper.wp
    rw [hrun]
    simp only [Oper.upon]
    obtain ⟨g1, g2⟩ := hle.get
    have ho1 : ∀ b, OK C m s.H w b → OK (subC C m s.H ks H0 w) (mren m ks) H0 w b := by
      refine fun b h => ⟨.inl h, h.2.1, fun k c l hk hl => ?_⟩
      obtain ⟨k', d, a1, a2, _⟩ := LeH.own g2 k c hk
      simp only [mren, a1, Option.bind_some] at hl
      exact h.2.2 k' _ l a2 hl
    obtain ⟨e1, e2⟩ := argsM_val R (rd' := Reads (OK (subC C m s.H ks H0 w) (mren m ks) H0 w) w) (H0 := H0) (fun p v h => h.mono ho1) g1.symm _ avs (fun i => (args.map a.eval ++ vs).getD i undef) hargs fun i hi => by
      simp only [List.length_append, List.length_map, Array.length_toList] at hi
      by_cases hip : i < args.size
      · rw [List.getElem_append_left (by simpa using hip)]
        simp only [Array.getD_eq_getD_getElem?]
        rw [Array.getElem?_append_left (by simpa using hip)]
        have := R.ev args[i]
        simpa [Array.getElem?_eq_getElem hip] using this
      · rw [List.getElem_append_right (by simp; omega)]
        simp only [Array.getD_eq_getD_getElem?]
        rw [Array.getElem?_append_right (by simp; omega)]
        simp only [List.getElem_map, List.length_map, Array.length_toList, Array.size_map]
        have := hcr (i - args.size) (by omega)
        rw [Array.getD_eq_getD_getElem?] at this
        exact .p _ _ this
    have hsz : (args.map a.eval ++ vs).size = avs.length := by
      rw [e1]; simp; omega
    have R0 : Rel (subC C m s.H ks H0 w) (mren m ks) ⟨avs.length, entA 0 avs, H0⟩ (args.map a.eval ++ vs) w := by
      refine R.weakenC (s1 := ⟨avs.length, entA 0 avs, H0⟩) hsz hnd hle ho1 (BelowP.refl _ _) (fun b h => .inl h) (fun k b l h hw hl _ => .inr ⟨k, b, l, h, hw, hl, rfl⟩) (fun k i j h => ?_) fun t => ?_
      · exact absurd rfl (notAnc_spec ((List.all_eq_true.1 h0) _ (List.mem_of_getElem? h)) i j)
      · unfold St.get
        simp only
        rw [entA_lk, if_pos (Nat.zero_le _), Nat.sub_zero]
        by_cases ht : t < avs.length
        · have := e2 t ht
          simpa [List.getD, List.getElem?_eq_getElem ht] using this
        · rw [List.getD_eq_getElem?_getD, List.getElem?_eq_none (by omega)]
          exact .dead _
    have R0' := R0.addAnc (n := H0.length) (Nat.le_refl _) fun i _ => rfl
    refine (hcalls _ _ w _ R0').mono fun e w' ⟨v, m', r, H1, hP, he, R1⟩ => ?_
    subst he
    obtain ⟨m2, R2, hv⟩ := R.joinM hle hks R1 (hsc r H1 hP)
    exact hK v m2 w' _ _ ⟨r, H1, hP, rfl, rfl⟩ R2 hv
theorem leH_pre {H0 X : Heap} (hs : ∀ b ∈ H0, hsc H0.length b = true) : LeH (List.range H0.length) (H0 ++ X) (List.range H0.length) H0 := by
  have gen : ∀ (H1 : Heap) (a : Nat), (∀ i, i < H1.length → hget (H0 ++ X) (a + i) = hget H1 i) → (∀ b ∈ H1, b ∈ H0) → a + H1.length ≤ H0.length → LeH (List.range H0.length) (H0 ++ X) (List.range' a H1.length) H1 := by
    intro H1
    induction H1 with
    | nil => intro a _ _ _; trivial
    | cons b r ih =>
      intro a h hm hl
      rw [List.length_cons] at hl ⊢
      rw [List.range'_succ]
      refine ⟨?_, ih (a + 1) (fun i hi => ?_) (fun x hx => hm x (by simp [hx])) (by omega)⟩
      · have h0 := h 0 (by simp)
        simp only [hget, Nat.add_zero] at h0
        have hb := hs b (hm b (by simp))
        cases b with
        | own c =>
          simp only [LeB, h0, List.length_range]
          refine ⟨?_, hb⟩
          rw [List.take_of_length_le (Nat.le_refl _)]
          have := List.map_congr_left (f := Go.Pv.ren (List.range H0.length)) (g := id) fun x hx => ren_id ((List.all_eq_true.1 hb) x hx)
          rw [this, List.map_id]
        | anc i j =>
          simp only [hsc, decide_eq_true_eq] at hb
          simp only [LeB, h0, List.length_range]
          refine ⟨?_, hb⟩
          simp [List.getD, List.getElem?_range hb]
        | dead => trivial
        | _ => simp only [LeB, h0]
      · have := h (i + 1) (by simp; omega)
        rw [show a + 1 + i = a + (i + 1) by omega, this]; rfl
  have := gen H0 0 (fun i hi => by rw [Nat.zero_add, hget_app1 hi]) (fun b hb => hb) (by omega)
  rwa [← List.range_eq_range'] at this
theorem blkren_id {L : Nat} {b : Blk} (h : hsc L b = true) : Blk.ren (List.range L) b = b := by
  cases b with
  | own c =>
    simp only [Blk.ren]
    have := List.map_congr_left (f := Go.Pv.ren (List.range L)) (g := id) fun x hx => ren_id ((List.all_eq_true.1 h) x hx)
    rw [this, List.map_id]
  | _ => rfl
theorem setL_pre {H0 H1 X : Heap} (hl : H1.length = H0.length) : setL (H0 ++ X) ((List.range H0.length).zip H1) = H1 ++ X := by
  refine hget_ext (by rw [setL_length]; simp [hl]) fun j => ?_
  rw [setL_hget]
  have hz : ((List.range H0.length).zip H1) = (List.range H1.length).zip H1 := by rw [hl]
  have gen : ∀ (B : Heap) (a : Nat), ((((List.range' a B.length).zip B).any fun p => p.1 == j) = decide (a ≤ j ∧ j < a + B.length)) ∧ (a ≤ j ∧ j < a + B.length → lkB j ((List.range' a B.length).zip B) = hget B (j - a)) := by
    intro B
    induction B with
    | nil => intro a; simp; omega
    | cons b r ih =>
      intro a
      obtain ⟨i1, i2⟩ := ih (a + 1)
      rw [List.length_cons, List.range'_succ, List.zip_cons_cons]
      constructor
      · rw [List.any_cons, i1]
        by_cases h : a = j
        · subst h; simp
        · have : (a == j) = false := by simpa using h
          rw [this, Bool.false_or]
          exact decide_eq_decide.2 (by omega)
      · intro hj
        simp only [lkB]
        by_cases h : a = j
        · subst h; rw [if_pos rfl, Nat.sub_self]; rfl
        · rw [if_neg h, i2 (by omega), show j - a = (j - (a + 1)) + 1 by omega]; rfl
  obtain ⟨g1, g2⟩ := gen H1 0
  rw [← List.range_eq_range'] at g1 g2
  rw [hz, g1]
  by_cases h : j < H1.length
  · rw [if_pos ⟨by simpa using h, by simp; omega⟩, g2 ⟨Nat.zero_le _, by omega⟩, Nat.sub_zero, hget_app1 h]
  · rw [if_neg (fun hh => by simp at hh; omega), hget_app2 (by omega), hget_app2 (by omega), hl]
def scP (n : Nat) (av : AV) (H0 H1 : Heap) : Bool := decide (H1.length = n) && (scA n av && H1.all (hsc n) && H1.all notAnc && mpKeep H0 H1)
theorem scP_M {n : Nat} {av : AV} {H0 H1 : Heap} (h0 : H0.all notAnc = true) (hn : H0.length = n) (h : scP n av H0 H1 = true) : scM av H0 H1 = true ∧ H1.length = n ∧ scA n av = true ∧ ∀ b ∈ H1, hsc n b = true := by
  unfold scP at h
  simp only [Bool.and_eq_true, decide_eq_true_eq] at h
  obtain ⟨h1, ⟨⟨h2, h3⟩, h4⟩, h5⟩ := h
  refine ⟨?_, h1, h2, fun b hb => (List.all_eq_true.1 h3) b hb⟩
  unfold scM
  simp only [Bool.and_eq_true, decide_eq_true_eq]
  refine ⟨⟨⟨⟨by rw [h1]; exact h2, ?_⟩, by omega⟩, h5⟩, h0⟩
  rw [List.all_eq_true]
  intro b hb
  have g1 := (List.all_eq_true.1 h3) b hb
  have g2 := (List.all_eq_true.1 h4) b hb
  cases b with
  | own c => rw [h1]; exact g1
  | anc i j => cases g2
  | _ => rfl
theorem call_doesEP {o : Oper} {fo : Operand} {args : Array Operand} {ts : Array TypeId} (ho : o.op = .call { callee := .value fo, args := args, argTypes := ts }) {g : FuncId} {cap : List PV} (hfo : s.ev fo = .p (.fn g cap)) {avs : List AV} {H0 X : Heap} {Post : AV → Heap → Prop}
    (hc : FnE P g avs H0 Post) (hH : s.H = H0 ++ X) (hargs : args.toList.map s.ev ++ cap.map .p = avs) (ha : avs.all (scA H0.length) = true) (hs : H0.all (hsc H0.length) = true) (h0 : H0.all notAnc = true) (hsc : ∀ r H1, Post r H1 → scP H0.length r H0 H1 = true) :
    DoesE P o s (fun av H' => ∃ H1, Post av H1 ∧ H' = H1 ++ X) := by
  have hn : ∀ r H1, Post r H1 → H1.length = H0.length := fun r H1 h => (scP_M h0 rfl (hsc r H1 h)).2.1
  have hargN : ∀ (l : List AV), l.all (scA H0.length) = true → argsN (List.range H0.length) l l := by
    intro l
    induction l with
    | nil => intro _; trivial
    | cons x r ih =>
      intro hl
      rw [List.all_cons, Bool.and_eq_true] at hl
      refine ⟨?_, ih hl.2⟩
      cases x with
      | p v => rfl
      | _ => exact ⟨(ren_id hl.1).symm, by rw [List.length_range]; exact hl.1⟩
  have := call_doesE (P := P) (s := s) ho hfo hc (ks := List.range H0.length) (by rw [hargs]; exact argsN_M (hargN _ ha)) (by rw [hH]; exact leH_pre fun b hb => (List.all_eq_true.1 hs) b hb) List.nodup_range (fun k hk => by rw [hH, List.length_append]; have := List.mem_range.1 hk; omega) h0 fun r H1 h => (scP_M h0 rfl (hsc r H1 h)).1
  intro C m a w K Q R hK
  refine this C m a w K Q R fun v m' w' av H' hO R2 hv => hK v m' w' av H' ?_ R2 hv
  obtain ⟨r, H1, hP, rfl, rfl⟩ := hO
  obtain ⟨_, g2, g3, g4⟩ := scP_M h0 rfl (hsc r H1 hP)
  rw [List.length_range, g2, Nat.sub_self, List.range'_zero, List.append_nil, ren_id g3]
  refine ⟨H1, hP, ?_⟩
  have hm : H1.map (Blk.ren (List.range H0.length)) = H1 := by
    have := List.map_congr_left (f := Blk.ren (List.range H0.length)) (g := id) fun x hx => blkren_id (g4 x hx)
    rw [this, List.map_id]
  rw [hm, putM_zip _ _ _ List.nodup_range (by rw [List.length_range, g2]), hH, setL_pre g2]
theorem runs_callP {all : Array Oper} {rest : List Oper} {K : St → Prop} {dst : Option Tmp} {ty : TypeId} {pos : String} {aft : Array Edge} {gd : Option (Nat × Bool)} {fo : Operand} {args : Array Operand} {ts : Array TypeId} {g : FuncId} {avs : List AV} {H0 H1 X : Heap} {r : AV}
    (hc : FnM P g avs H0 r H1) {cap : List PV} (hfo : s.ev fo = .p (.fn g cap)) (hg : guardA all s { dst := dst, op := .call { callee := .value fo, args := args, argTypes := ts }, type := ty, pos := pos, after := aft, guard := gd } = some true)
    (hH : s.H = H0 ++ X) (hargs : args.toList.map s.ev ++ cap.map .p = avs) (ha : avs.all (scA H0.length) = true) (hs : H0.all (hsc H0.length) = true) (h0 : H0.all notAnc = true) (hsc : scP H0.length r H0 H1 = true) (hd : dstOk s dst)
    (h : Runs P false all rest K (({ s with H := H1 ++ X } : St).put dst r)) :
    Runs P false all ({ dst := dst, op := .call { callee := .value fo, args := args, argTypes := ts }, type := ty, pos := pos, after := aft, guard := gd } :: rest) K s := by
  obtain ⟨s', hr, hK⟩ := h
  refine ⟨s', .cons (.op s _ _ hg (dstOk_spec hd) ?_ fun h => by cases h) hr, hK⟩
  intro C m a w K Q R hK
  exact call_doesEP (P := P) rfl hfo hc.toE hH hargs ha hs h0 (fun r' H' h => by rw [h.1, h.2]; exact hsc) C m a w K Q R fun v m' w' av H' ⟨H1', ⟨e1, e2⟩, e3⟩ R2 hv => by
    subst e1 e2 e3
    exact hK v m' w' R2 hv
theorem runs2_callP {all : Array Oper} {rest : List Oper} {K : St → List I2 → Prop} {acc : List I2} {dst : Option Tmp} {ty : TypeId} {pos : String} {aft : Array Edge} {gd : Option (Nat × Bool)} {fo : Operand} {args : Array Operand} {ts : Array TypeId} {g : FuncId} {avs : List AV} {H0 H1 X : Heap} {r : AV}
    (hc : FnM P g avs H0 r H1) {cap : List PV} (hfo : s.ev fo = .p (.fn g cap)) (hg : guardA all s { dst := dst, op := .call { callee := .value fo, args := args, argTypes := ts }, type := ty, pos := pos, after := aft, guard := gd } = some true)
    (hH : s.H = H0 ++ X) (hargs : args.toList.map s.ev ++ cap.map .p = avs) (ha : avs.all (scA H0.length) = true) (hs : H0.all (hsc H0.length) = true) (h0 : H0.all notAnc = true) (hsc : scP H0.length r H0 H1 = true) (hd : dstOk s dst)
    (h : Runs2 P all rest K (({ s with H := H1 ++ X } : St).put dst r) (acc ++ [⟨.ms ((List.range H0.length).zip H1), r, .dead, false⟩])) :
    Runs2 P all ({ dst := dst, op := .call { callee := .value fo, args := args, argTypes := ts }, type := ty, pos := pos, after := aft, guard := gd } :: rest) K s acc := by
  obtain ⟨g1, g2, g3, g4⟩ := scP_M h0 rfl hsc
  have hargN : ∀ (l : List AV), l.all (scA H0.length) = true → argsN (List.range H0.length) l l := by
    intro l
    induction l with
    | nil => intro _; trivial
    | cons x r ih =>
      intro hl
      rw [List.all_cons, Bool.and_eq_true] at hl
      refine ⟨?_, ih hl.2⟩
      cases x with
      | p v => rfl
      | _ => exact ⟨(ren_id hl.1).symm, by rw [List.length_range]; exact hl.1⟩
  have hm : H1.map (Blk.ren (List.range H0.length)) = H1 := by
    have := List.map_congr_left (f := Blk.ren (List.range H0.length)) (g := id) fun x hx => blkren_id (g4 x hx)
    rw [this, List.map_id]
  refine runs2_callM (List.range H0.length) hc (by rw [List.length_range, g2]) hfo hg (by rw [hargs]; exact hargN _ ha) (by rw [hH]; exact leH_pre fun b hb => (List.all_eq_true.1 hs) b hb) List.nodup_range (fun k hk => by rw [hH, List.length_append]; have := List.mem_range.1 hk; omega) g1 hd ?_
  rw [hm, hH, setL_pre g2, ren_id g3]
  exact h
end
end Go.Pv

namespace Go.Pv
open Go.RowKit
section
variable {P : Program} {C : Ctx} {m : Map} {s : St} {tmps : Array Value} {w : World}
end
end Go.Pv

namespace Go.Proofs.Ytneglephfhiamaa
open Go.Pv
theorem fault_c (c a : Int) : FnC Try.prog 82 [.int .i64 c, .int .i64 a] (.agg [.int .i64 c, .int .i64 a]) := by
  refine fnc_of tab_ok Try.func82 rfl (by kernel_rfl) (by rw [Try.ntmps82]; exact Nat.le_add_left 2 _) ?_; rw [Try.ntmps82]; repeat (first | refine qa ?_ | refine qb ?_ | refine qc ?_ | refine qd ?_ | refine qe ?_ | refine qf ?_ | refine qg rfl ?_ | refine qh ?_ | refine qi ?_ | refine qj ?_ | refine qk ?_ | refine ql ?_ | refine qm ?_)
  (refine hk_region fun K hK => runs_eval tab_ok ?_); simp only [ev0, evA, evB, evP, gp, tab, simprocAttr, reduceCtorEq, reduceIte]; refine fin_run trivial (hK _ ?_) <;> clear hK <;> clear K; repeat (first | refine qa ?_ | refine qb ?_ | refine qc ?_ | refine qd ?_ | refine qe ?_ | refine qf ?_ | refine qg rfl ?_ | refine qh ?_ | refine qi ?_ | refine qj ?_ | refine qk ?_ | refine ql ?_ | refine qm ?_)
  (refine hk_region fun K hK => runs_eval tab_ok ?_); simp only [ev0, evA, evB, evP, gp, tab, simprocAttr, reduceCtorEq, reduceIte]; refine fin_run trivial (hK _ ?_) <;> clear hK <;> clear K; repeat (first | refine qa ?_ | refine qb ?_ | refine qc ?_ | refine qd ?_ | refine qe ?_ | refine qf ?_ | refine qg rfl ?_ | refine qh ?_ | refine qi ?_ | refine qj ?_ | refine qk ?_ | refine ql ?_ | refine qm ?_)
  simp only [Try.results82, Post, endA, rvsA, rvA, mkTup, peekA, peekG, peekS, peekList, PV.norm, PV.norm1, PV.norm0, PV.list.injEq, PV.tup.injEq, PV.agg.injEq, PV.int.injEq, PV.bool.injEq, List.cons.injEq, ev0, evA, evB, evP, gp, tab, simprocAttr, reduceCtorEq, reduceIte]
def chk : Nat → List Int → Int × Int
  | _, [] => (0, 0)
  | i, x :: r => if x = 0 ∨ x < -26 ∨ x > 26 then (3, i) else chk (i + 1) r
def check (w : List Int) : Int × Int := if (w.length : Int) > 2000 then (2, 0) else chk 0 w
def fl (p : Int × Int) : PV := .agg [.int .i64 p.1, .int .i64 p.2]
theorem check_c (w : List Int) : FnC Try.prog 61 [.list (il w)] (fl (check w)) := by
  refine fnc_of tab_ok Try.func61 rfl (by kernel_rfl) (by rw [Try.ntmps61]; exact Nat.le_add_left 1 _) ?_; rw [Try.ntmps61]; repeat (first | refine qa ?_ | refine qb ?_ | refine qc ?_ | refine qd ?_ | refine qe ?_ | refine qf ?_ | refine qg rfl ?_ | refine qh ?_ | refine qi ?_ | refine qj ?_ | refine qk ?_ | refine ql ?_ | refine qm ?_)
  (refine hk_region fun K hK => runs_eval tab_ok ?_); simp only [ev0, evA, evB, evP, gp, tab, simprocAttr, reduceCtorEq, reduceIte]; refine fin_run trivial (hK _ ?_) <;> clear hK <;> clear K; repeat (first | refine qa ?_ | refine qb ?_ | refine qc ?_ | refine qd ?_ | refine qe ?_ | refine qf ?_ | refine qg rfl ?_ | refine qh ?_ | refine qi ?_ | refine qj ?_ | refine qk ?_ | refine ql ?_ | refine qm ?_)
  (refine hk_region fun K hK => runs_eval tab_ok ?_); simp only [ev0, evA, evB, evP, gp, tab, simprocAttr, reduceCtorEq, reduceIte, il_length]; refine fin_run trivial (hK _ ?_) <;> clear hK <;> clear K; repeat (first | refine qa ?_ | refine qb ?_ | refine qc ?_ | refine qd ?_ | refine qe ?_ | refine qf ?_ | refine qg rfl ?_ | refine qh ?_ | refine qi ?_ | refine qj ?_ | refine qk ?_ | refine ql ?_ | refine qm ?_)
  refine hk_cond rfl (fun h => ?_) (fun h => ?_)
  · repeat (first | refine qa ?_ | refine qb ?_ | refine qc ?_ | refine qd ?_ | refine qe ?_ | refine qf ?_ | refine qg rfl ?_ | refine qh ?_ | refine qi ?_ | refine qj ?_ | refine qk ?_ | refine ql ?_ | refine qm ?_)
    refine hk_region fun K hK => runs_eval tab_ok ?_
    simp only [ev0, evA, evB, evP, gp, tab, simprocAttr, reduceCtorEq, reduceIte]
    refine fin_stop trivial (runs_call (fault_c 2 0) rfl rfl rfl (by simp only [dstOk, Nat.reduceLT]) (by repeat (first | exact trivial | constructor)) (runs_eval tab_ok ?_))
    simp only [ev0, evA, evB, evP, gp, tab, simprocAttr, reduceCtorEq, reduceIte]
    refine fin_run trivial (hK _ ?_) <;> clear hK <;> clear K
    repeat (first | refine qa ?_ | refine qb ?_ | refine qc ?_ | refine qd ?_ | refine qe ?_ | refine qf ?_ | refine qg rfl ?_ | refine qh ?_ | refine qi ?_ | refine qj ?_ | refine qk ?_ | refine ql ?_ | refine qm ?_)
    simp only [Try.results61, Post, endA, rvsA, rvA, mkTup, peekA, peekG, peekS, peekList, PV.norm, PV.norm1, PV.norm0, PV.list.injEq, PV.tup.injEq, PV.agg.injEq, PV.int.injEq, PV.bool.injEq, List.cons.injEq, ev0, evA, evB, evP, gp, tab, simprocAttr, reduceCtorEq, reduceIte]
    simp [check, fl, of_decide_eq_true h]
  · repeat (first | refine qa ?_ | refine qb ?_ | refine qc ?_ | refine qd ?_ | refine qe ?_ | refine qf ?_ | refine qg rfl ?_ | refine qh ?_ | refine qi ?_ | refine qj ?_ | refine qk ?_ | refine ql ?_ | refine qm ?_)
    (refine hk_region fun K hK => runs_eval tab_ok ?_); simp only [ev0, evA, evB, evP, gp, tab, simprocAttr, reduceCtorEq, reduceIte, il_length]; refine fin_run trivial (hK _ ?_) <;> clear hK <;> clear K; repeat (first | refine qa ?_ | refine qb ?_ | refine qc ?_ | refine qd ?_ | refine qe ?_ | refine qf ?_ | refine qg rfl ?_ | refine qh ?_ | refine qi ?_ | refine qj ?_ | refine qk ?_ | refine ql ?_ | refine qm ?_)
    have hw : w.length ≤ 2000 := by have := of_decide_eq_false h; omega
    refine hk_loop (ι := Nat) (fun i => ⟨30, [(2, .ptr 0 0), (9, .p (.list (il w))), (10, .p (.int .i64 w.length)), (11, .p (.int .i64 i))], [.own [.p (.int .i64 0), .p (.int .i64 0)]]⟩) (fun i => i ≤ w.length ∧ chk i (w.drop i) = chk 0 w) (fun i => w.length - i) 0 ⟨Nat.zero_le _, rfl⟩ [0] (by simp only [AV.p.injEq, AV.sl.injEq, AV.ptr.injEq, Blk.own.injEq, PV.int.injEq, PV.bool.injEq, PV.list.injEq, Nat.sub_zero, Int.natCast_add, List.length_append, take_take_len, take_app1, take_app2, Le, LeH, LeS, LeB, ren, ren1, scA, sc1, List.nodup_cons, List.nodup_nil, List.mem_cons, List.not_mem_nil, or_false, not_false_eq_true, ev0, evA, evB, evP, gp, tab, simprocAttr, reduceCtorEq, reduceIte] <;> trivial) fun i hi => ?_
    repeat (first | refine qa ?_ | refine qb ?_ | refine qc ?_ | refine qd ?_ | refine qe ?_ | refine qf ?_ | refine qg rfl ?_ | refine qh ?_ | refine qi ?_ | refine qj ?_ | refine qk ?_ | refine ql ?_ | refine qm ?_)
    (refine hk_region fun K hK => runs_eval tab_ok ?_); simp only [ev0, evA, evB, evP, gp, tab, simprocAttr, reduceCtorEq, reduceIte]; refine fin_run trivial (hK _ ?_) <;> clear hK <;> clear K; repeat (first | refine qa ?_ | refine qb ?_ | refine qc ?_ | refine qd ?_ | refine qe ?_ | refine qf ?_ | refine qg rfl ?_ | refine qh ?_ | refine qi ?_ | refine qj ?_ | refine qk ?_ | refine ql ?_ | refine qm ?_)
    refine hk_cond rfl (fun hlt => ?_) (fun hlt => ?_)
    · repeat (first | refine qa ?_ | refine qb ?_ | refine qc ?_ | refine qd ?_ | refine qe ?_ | refine qf ?_ | refine qg rfl ?_ | refine qh ?_ | refine qi ?_ | refine qj ?_ | refine qk ?_ | refine ql ?_ | refine qm ?_)
      have hlt : i < w.length := by have := of_decide_eq_true hlt; omega
      refine hk_region fun K hK => runs_eval tab_ok ?_
      simp only [ev0, evA, evB, evP, gp, tab, simprocAttr, reduceCtorEq, reduceIte, il_get hlt, il_length]
      refine fin_run ?_ (hK _ ?_) <;> clear hK <;> clear K
      · omega
      repeat (first | refine qa ?_ | refine qb ?_ | refine qc ?_ | refine qd ?_ | refine qe ?_ | refine qf ?_ | refine qg rfl ?_ | refine qh ?_ | refine qi ?_ | refine qj ?_ | refine qk ?_ | refine ql ?_ | refine qm ?_)
      obtain ⟨hi1, hi2⟩ := hi
      have hdrop : w.drop i = w.getD i 0 :: w.drop (i + 1) := by
        rw [List.drop_eq_getElem_cons hlt]; simp [List.getD, List.getElem?_eq_getElem hlt]
      have next : ¬ (w.getD i 0 = 0 ∨ w.getD i 0 < -26 ∨ w.getD i 0 > 26) → chk (i + 1) (w.drop (i + 1)) = chk 0 w := by
        intro hn
        rw [hdrop, chk, if_neg hn] at hi2; exact hi2
      have last : (w.getD i 0 = 0 ∨ w.getD i 0 < -26 ∨ w.getD i 0 > 26) → chk 0 w = (3, (i : Int)) := by
        intro hn
        rw [hdrop, chk, if_pos hn] at hi2; exact hi2.symm
      generalize w.getD i 0 = x at *
      refine hk_cut ⟨30, [(25, .p (.bool (decide (x = 0 ∨ x < -26 ∨ x > 26)))), (3, .p (.int .i64 i)), (2, .ptr 0 0), (9, .p (.list (il w))), (10, .p (.int .i64 w.length)), (11, .p (.int .i64 i))], [.own [.p (.int .i64 0), .p (.int .i64 0)]]⟩ ?_ ?_
      · cases e1 : (x == 0)
        · cases e2 : decide (x < -26)
          · refine hk_region fun K hK => runs_eval tab_ok ?_
            simp only [ev0, evA, evB, evP, gp, tab, simprocAttr, reduceCtorEq, reduceIte, e1, e2]
            refine fin_run trivial (hK _ ?_) <;> clear hK <;> clear K
            refine ⟨rfl, [0], ?_⟩; simp only [AV.p.injEq, AV.sl.injEq, AV.ptr.injEq, Blk.own.injEq, PV.int.injEq, PV.bool.injEq, PV.list.injEq, Nat.sub_zero, Int.natCast_add, List.length_append, take_take_len, take_app1, take_app2, Le, LeH, LeS, LeB, ren, ren1, scA, sc1, List.nodup_cons, List.nodup_nil, List.mem_cons, List.not_mem_nil, or_false, not_false_eq_true, ev0, evA, evB, evP, gp, tab, simprocAttr, reduceCtorEq, reduceIte]; (first | exact trivial | omega | (simp only [In64] at *; omega) | (rw [Bool.eq_iff_iff]; simp; done) | (rw [Bool.eq_iff_iff]; simp; omega) | (simp [In64] at *; omega) | (simp_all; done) | (simp_all [In64] <;> omega) | skip)
          · refine hk_region fun K hK => runs_eval tab_ok ?_
            simp only [ev0, evA, evB, evP, gp, tab, simprocAttr, reduceCtorEq, reduceIte, e1, e2]
            refine fin_run trivial (hK _ ?_) <;> clear hK <;> clear K
            refine ⟨rfl, [0], ?_⟩; simp only [AV.p.injEq, AV.sl.injEq, AV.ptr.injEq, Blk.own.injEq, PV.int.injEq, PV.bool.injEq, PV.list.injEq, Nat.sub_zero, Int.natCast_add, List.length_append, take_take_len, take_app1, take_app2, Le, LeH, LeS, LeB, ren, ren1, scA, sc1, List.nodup_cons, List.nodup_nil, List.mem_cons, List.not_mem_nil, or_false, not_false_eq_true, ev0, evA, evB, evP, gp, tab, simprocAttr, reduceCtorEq, reduceIte]; (first | exact trivial | omega | (simp only [In64] at *; omega) | (rw [Bool.eq_iff_iff]; simp; done) | (rw [Bool.eq_iff_iff]; simp; omega) | (simp [In64] at *; omega) | (simp_all; done) | (simp_all [In64] <;> omega) | skip)
        · refine hk_region fun K hK => runs_eval tab_ok ?_
          simp only [ev0, evA, evB, evP, gp, tab, simprocAttr, reduceCtorEq, reduceIte, e1]
          refine fin_run trivial (hK _ ?_) <;> clear hK <;> clear K
          refine ⟨rfl, [0], ?_⟩; simp only [AV.p.injEq, AV.sl.injEq, AV.ptr.injEq, Blk.own.injEq, PV.int.injEq, PV.bool.injEq, PV.list.injEq, Nat.sub_zero, Int.natCast_add, List.length_append, take_take_len, take_app1, take_app2, Le, LeH, LeS, LeB, ren, ren1, scA, sc1, List.nodup_cons, List.nodup_nil, List.mem_cons, List.not_mem_nil, or_false, not_false_eq_true, ev0, evA, evB, evP, gp, tab, simprocAttr, reduceCtorEq, reduceIte]; (first | exact trivial | omega | (simp only [In64] at *; omega) | (rw [Bool.eq_iff_iff]; simp; done) | (rw [Bool.eq_iff_iff]; simp; omega) | (simp [In64] at *; omega) | (simp_all; done) | (simp_all [In64] <;> omega) | skip)
      · refine hk_cond rfl (fun hc => ?_) (fun hc => ?_)
        · repeat (first | refine qa ?_ | refine qb ?_ | refine qc ?_ | refine qd ?_ | refine qe ?_ | refine qf ?_ | refine qg rfl ?_ | refine qh ?_ | refine qi ?_ | refine qj ?_ | refine qk ?_ | refine ql ?_ | refine qm ?_)
          refine hk_region fun K hK => runs_eval tab_ok ?_
          simp only [ev0, evA, evB, evP, gp, tab, simprocAttr, reduceCtorEq, reduceIte]
          refine fin_stop trivial (runs_call (fault_c 3 i) rfl rfl rfl (by simp only [dstOk, Nat.reduceLT]) (by repeat (first | exact trivial | constructor)) (runs_eval tab_ok ?_))
          simp only [ev0, evA, evB, evP, gp, tab, simprocAttr, reduceCtorEq, reduceIte]
          refine fin_run trivial (hK _ ?_) <;> clear hK <;> clear K
          repeat (first | refine qa ?_ | refine qb ?_ | refine qc ?_ | refine qd ?_ | refine qe ?_ | refine qf ?_ | refine qg rfl ?_ | refine qh ?_ | refine qi ?_ | refine qj ?_ | refine qk ?_ | refine ql ?_ | refine qm ?_)
          simp only [Try.results61, Post, endA, rvsA, rvA, mkTup, peekA, peekG, peekS, peekList, PV.norm, PV.norm1, PV.norm0, PV.list.injEq, PV.tup.injEq, PV.agg.injEq, PV.int.injEq, PV.bool.injEq, List.cons.injEq, ev0, evA, evB, evP, gp, tab, simprocAttr, reduceCtorEq, reduceIte]
          rw [check, if_neg (by omega), last (of_decide_eq_true hc)]; rfl
        · repeat (first | refine qa ?_ | refine qb ?_ | refine qc ?_ | refine qd ?_ | refine qe ?_ | refine qf ?_ | refine qg rfl ?_ | refine qh ?_ | refine qi ?_ | refine qj ?_ | refine qk ?_ | refine ql ?_ | refine qm ?_)
          refine hk_region fun K hK => runs_eval tab_ok ?_
          simp only [ev0, evA, evB, evP, gp, tab, simprocAttr, reduceCtorEq, reduceIte]
          refine fin_run ?_ (hK _ ?_) <;> clear hK <;> clear K
          · (first | exact trivial | omega | (simp only [In64] at *; omega) | (rw [Bool.eq_iff_iff]; simp; done) | (rw [Bool.eq_iff_iff]; simp; omega) | (simp [In64] at *; omega) | (simp_all; done) | (simp_all [In64] <;> omega) | skip)
          repeat (first | refine qa ?_ | refine qb ?_ | refine qc ?_ | refine qd ?_ | refine qe ?_ | refine qf ?_ | refine qg rfl ?_ | refine qh ?_ | refine qi ?_ | refine qj ?_ | refine qk ?_ | refine ql ?_ | refine qm ?_)
          refine ⟨i + 1, [0], ⟨by omega, next (of_decide_eq_false hc)⟩, by omega, ?_⟩
          simp only [AV.p.injEq, AV.sl.injEq, AV.ptr.injEq, Blk.own.injEq, PV.int.injEq, PV.bool.injEq, PV.list.injEq, Nat.sub_zero, Int.natCast_add, List.length_append, take_take_len, take_app1, take_app2, Le, LeH, LeS, LeB, ren, ren1, scA, sc1, List.nodup_cons, List.nodup_nil, List.mem_cons, List.not_mem_nil, or_false, not_false_eq_true, ev0, evA, evB, evP, gp, tab, simprocAttr, reduceCtorEq, reduceIte] <;> (first | exact trivial | omega | (simp only [In64] at *; omega) | (rw [Bool.eq_iff_iff]; simp; done) | (rw [Bool.eq_iff_iff]; simp; omega) | (simp [In64] at *; omega) | (simp_all; done) | (simp_all [In64] <;> omega) | skip)
    · repeat (first | refine qa ?_ | refine qb ?_ | refine qc ?_ | refine qd ?_ | refine qe ?_ | refine qf ?_ | refine qg rfl ?_ | refine qh ?_ | refine qi ?_ | refine qj ?_ | refine qk ?_ | refine ql ?_ | refine qm ?_)
      (refine hk_region fun K hK => runs_eval tab_ok ?_); simp only [ev0, evA, evB, evP, gp, tab, simprocAttr, reduceCtorEq, reduceIte]; refine fin_run trivial (hK _ ?_) <;> clear hK <;> clear K; repeat (first | refine qa ?_ | refine qb ?_ | refine qc ?_ | refine qd ?_ | refine qe ?_ | refine qf ?_ | refine qg rfl ?_ | refine qh ?_ | refine qi ?_ | refine qj ?_ | refine qk ?_ | refine ql ?_ | refine qm ?_)
      simp only [Try.results61, Post, endA, rvsA, rvA, mkTup, peekA, peekG, peekS, peekList, PV.norm, PV.norm1, PV.norm0, PV.list.injEq, PV.tup.injEq, PV.agg.injEq, PV.int.injEq, PV.bool.injEq, List.cons.injEq, ev0, evA, evB, evP, gp, tab, simprocAttr, reduceCtorEq, reduceIte]
      have : i = w.length := by have := of_decide_eq_false hlt; omega
      rw [check, if_neg (by omega), ← hi.2, this, List.drop_length]; rfl
def push (o : List Int) (x : Int) : List Int := if 0 < o.length ∧ o.getD (o.length - 1) 0 = -x then o.take (o.length - 1) else o ++ [x]
def short (w : List Int) : List Int := w.foldl push []
def Sm (w : List Int) : Prop := ∀ x ∈ w, -26 ≤ x ∧ x ≤ 26
theorem push_len (o : List Int) (x : Int) : (push o x).length ≤ o.length + 1 := by
  unfold push; split <;> simp <;> omega
theorem short_snoc (w : List Int) (i : Nat) (h : i < w.length) : short (w.take (i + 1)) = push (short (w.take i)) (w.getD i 0) := by
  rw [List.take_succ_eq_append_getElem h]
  simp only [short, List.foldl_append, List.foldl_cons, List.foldl_nil, List.getD, List.getElem?_eq_getElem h, Option.getD_some]
theorem short_len (w : List Int) : (short w).length ≤ w.length := by
  have : ∀ (w o : List Int), (w.foldl push o).length ≤ o.length + w.length := by
    intro w
    induction w with
    | nil => intro o; simp
    | cons x r ih => intro o; have := ih (push o x); have := push_len o x; simp at *; omega
  have := this w []
  simpa [short] using this
theorem short_c (w : List Int) (hl : w.length ≤ 1000000000) (hs : Sm w) : FnC Try.prog 54 [.list (il w)] (.list (il (short w))) := by
  refine fnc_of tab_ok Try.func54 rfl (by kernel_rfl) (by rw [Try.ntmps54]; exact Nat.le_add_left 1 _) ?_; rw [Try.ntmps54]; repeat (first | refine qa ?_ | refine qb ?_ | refine qc ?_ | refine qd ?_ | refine qe ?_ | refine qf ?_ | refine qg rfl ?_ | refine qh ?_ | refine qi ?_ | refine qj ?_ | refine qk ?_ | refine ql ?_ | refine qm ?_)
  (refine hk_region fun K hK => runs_eval tab_ok ?_); simp only [ev0, evA, evB, evP, gp, tab, simprocAttr, reduceCtorEq, reduceIte]; refine fin_run trivial (hK _ ?_) <;> clear hK <;> clear K; repeat (first | refine qa ?_ | refine qb ?_ | refine qc ?_ | refine qd ?_ | refine qe ?_ | refine qf ?_ | refine qg rfl ?_ | refine qh ?_ | refine qi ?_ | refine qj ?_ | refine qk ?_ | refine ql ?_ | refine qm ?_)
  refine hk_region fun K hK => runs_eval tab_ok ?_
  simp only [ev0, evA, evB, evP, gp, tab, simprocAttr, reduceCtorEq, reduceIte]
  refine fin_run ?_ (hK _ ?_) <;> clear hK <;> clear K
  · (first | exact trivial | omega | (simp only [In64] at *; omega) | (rw [Bool.eq_iff_iff]; simp; done) | (rw [Bool.eq_iff_iff]; simp; omega) | (simp [In64] at *; omega) | (simp_all; done) | (simp_all [In64] <;> omega) | skip)
  repeat (first | refine qa ?_ | refine qb ?_ | refine qc ?_ | refine qd ?_ | refine qe ?_ | refine qf ?_ | refine qg rfl ?_ | refine qh ?_ | refine qi ?_ | refine qj ?_ | refine qk ?_ | refine ql ?_ | refine qm ?_)
  (refine hk_region fun K hK => runs_eval tab_ok ?_); simp only [ev0, evA, evB, evP, gp, tab, simprocAttr, reduceCtorEq, reduceIte]; refine fin_run trivial (hK _ ?_) <;> clear hK <;> clear K; repeat (first | refine qa ?_ | refine qb ?_ | refine qc ?_ | refine qd ?_ | refine qe ?_ | refine qf ?_ | refine qg rfl ?_ | refine qh ?_ | refine qi ?_ | refine qj ?_ | refine qk ?_ | refine ql ?_ | refine qm ?_)
  refine hk_loop (ι := Nat) (fun i => ⟨40, [(3, .sl 0 0 (short (w.take i)).length), (10, .p (.list (il w))), (11, .p (.int .i64 w.length)), (12, .p (.int .i64 i))], [.own (ol (short (w.take i)))]⟩) (fun i => i ≤ w.length) (fun i => w.length - i) 0 (Nat.zero_le _) [0] (by simp only [AV.p.injEq, AV.sl.injEq, AV.ptr.injEq, Blk.own.injEq, PV.int.injEq, PV.bool.injEq, PV.list.injEq, Nat.sub_zero, Int.natCast_add, List.length_append, take_take_len, take_app1, take_app2, Le, LeH, LeS, LeB, ren, ren1, scA, sc1, List.nodup_cons, List.nodup_nil, List.mem_cons, List.not_mem_nil, or_false, not_false_eq_true, ev0, evA, evB, evP, gp, tab, simprocAttr, reduceCtorEq, reduceIte] <;> trivial) fun i hi => ?_
  repeat (first | refine qa ?_ | refine qb ?_ | refine qc ?_ | refine qd ?_ | refine qe ?_ | refine qf ?_ | refine qg rfl ?_ | refine qh ?_ | refine qi ?_ | refine qj ?_ | refine qk ?_ | refine ql ?_ | refine qm ?_)
  (refine hk_region fun K hK => runs_eval tab_ok ?_); simp only [ev0, evA, evB, evP, gp, tab, simprocAttr, reduceCtorEq, reduceIte]; refine fin_run trivial (hK _ ?_) <;> clear hK <;> clear K; repeat (first | refine qa ?_ | refine qb ?_ | refine qc ?_ | refine qd ?_ | refine qe ?_ | refine qf ?_ | refine qg rfl ?_ | refine qh ?_ | refine qi ?_ | refine qj ?_ | refine qk ?_ | refine ql ?_ | refine qm ?_)
  refine hk_cond rfl (fun hlt => ?_) (fun hlt => ?_)
  · repeat (first | refine qa ?_ | refine qb ?_ | refine qc ?_ | refine qd ?_ | refine qe ?_ | refine qf ?_ | refine qg rfl ?_ | refine qh ?_ | refine qi ?_ | refine qj ?_ | refine qk ?_ | refine ql ?_ | refine qm ?_)
    have hlt : i < w.length := by have := of_decide_eq_true hlt; omega
    refine hk_region fun K hK => runs_eval tab_ok ?_
    simp only [ev0, evA, evB, evP, gp, tab, simprocAttr, reduceCtorEq, reduceIte, il_get hlt]
    refine fin_run ?_ (hK _ ?_) <;> clear hK <;> clear K
    · omega
    repeat (first | refine qa ?_ | refine qb ?_ | refine qc ?_ | refine qd ?_ | refine qe ?_ | refine qf ?_ | refine qg rfl ?_ | refine qh ?_ | refine qi ?_ | refine qj ?_ | refine qk ?_ | refine ql ?_ | refine qm ?_)
    have hx := hs (w.getD i 0) (by simp [List.getD, List.getElem?_eq_getElem hlt])
    have hsn := short_snoc w i hlt
    have hle := short_len (w.take i)
    rw [List.length_take] at hle
    generalize short (w.take i) = o at *
    generalize w.getD i 0 = x at *
    (refine hk_region fun K hK => runs_eval tab_ok ?_); simp only [ev0, evA, evB, evP, gp, tab, simprocAttr, reduceCtorEq, reduceIte]; refine fin_run trivial (hK _ ?_) <;> clear hK <;> clear K; repeat (first | refine qa ?_ | refine qb ?_ | refine qc ?_ | refine qd ?_ | refine qe ?_ | refine qf ?_ | refine qg rfl ?_ | refine qh ?_ | refine qi ?_ | refine qj ?_ | refine qk ?_ | refine ql ?_ | refine qm ?_)
    refine hk_cut ⟨40, [(29, .p (.bool (decide (0 < o.length ∧ o.getD (o.length - 1) 0 = -x)))), (6, .p (.int .i64 o.length)), (5, .p (.int .i64 x)), (3, .sl 0 0 o.length), (10, .p (.list (il w))), (11, .p (.int .i64 w.length)), (12, .p (.int .i64 i))], [.own (ol o)]⟩ ?_ ?_
    · cases e0 : decide ((o.length : Int) > 0)
      · refine hk_region fun K hK => runs_eval tab_ok ?_
        simp only [ev0, evA, evB, evP, gp, tab, simprocAttr, reduceCtorEq, reduceIte, e0]
        refine fin_run trivial (hK _ ?_) <;> clear hK <;> clear K
        refine ⟨rfl, [0], ?_⟩; simp only [AV.p.injEq, AV.sl.injEq, AV.ptr.injEq, Blk.own.injEq, PV.int.injEq, PV.bool.injEq, PV.list.injEq, Nat.sub_zero, Int.natCast_add, List.length_append, take_take_len, take_app1, take_app2, Le, LeH, LeS, LeB, ren, ren1, scA, sc1, List.nodup_cons, List.nodup_nil, List.mem_cons, List.not_mem_nil, or_false, not_false_eq_true, ev0, evA, evB, evP, gp, tab, simprocAttr, reduceCtorEq, reduceIte]; (first | exact trivial | omega | (simp only [In64] at *; omega) | (rw [Bool.eq_iff_iff]; simp; done) | (rw [Bool.eq_iff_iff]; simp; omega) | (simp [In64] at *; omega) | (simp_all; done) | (simp_all [In64] <;> omega) | skip)
      · have h0 : o.length - 1 < o.length := by have := of_decide_eq_true e0; omega
        refine hk_region fun K hK => runs_eval tab_ok ?_
        simp only [ev0, evA, evB, evP, gp, tab, simprocAttr, reduceCtorEq, reduceIte, e0, ol_get h0]
        refine fin_run ?_ (hK _ ?_) <;> clear hK <;> clear K
        · (first | exact trivial | omega | (simp only [In64] at *; omega) | (rw [Bool.eq_iff_iff]; simp; done) | (rw [Bool.eq_iff_iff]; simp; omega) | (simp [In64] at *; omega) | (simp_all; done) | (simp_all [In64] <;> omega) | skip)
        refine ⟨rfl, [0], ?_⟩; simp only [AV.p.injEq, AV.sl.injEq, AV.ptr.injEq, Blk.own.injEq, PV.int.injEq, PV.bool.injEq, PV.list.injEq, Nat.sub_zero, Int.natCast_add, List.length_append, take_take_len, take_app1, take_app2, Le, LeH, LeS, LeB, ren, ren1, scA, sc1, List.nodup_cons, List.nodup_nil, List.mem_cons, List.not_mem_nil, or_false, not_false_eq_true, ev0, evA, evB, evP, gp, tab, simprocAttr, reduceCtorEq, reduceIte]; (first | exact trivial | omega | (simp only [In64] at *; omega) | (rw [Bool.eq_iff_iff]; simp; done) | (rw [Bool.eq_iff_iff]; simp; omega) | (simp [In64] at *; omega) | (simp_all; done) | (simp_all [In64] <;> omega) | skip)
    · refine hk_cond rfl (fun hc => ?_) (fun hc => ?_)
      · have hc := of_decide_eq_true hc
        refine hk_region fun K hK => runs_eval tab_ok ?_
        simp only [ev0, evA, evB, evP, gp, tab, simprocAttr, reduceCtorEq, reduceIte]
        refine fin_run ?_ (hK _ ?_) <;> clear hK <;> clear K
        · (first | exact trivial | omega | (simp only [In64] at *; omega) | (rw [Bool.eq_iff_iff]; simp; done) | (rw [Bool.eq_iff_iff]; simp; omega) | (simp [In64] at *; omega) | (simp_all; done) | (simp_all [In64] <;> omega) | skip)
        repeat (first | refine qa ?_ | refine qb ?_ | refine qc ?_ | refine qd ?_ | refine qe ?_ | refine qf ?_ | refine qg rfl ?_ | refine qh ?_ | refine qi ?_ | refine qj ?_ | refine qk ?_ | refine ql ?_ | refine qm ?_)
        refine hk_region fun K hK => runs_eval tab_ok ?_
        simp only [ev0, evA, evB, evP, gp, tab, simprocAttr, reduceCtorEq, reduceIte]
        refine fin_run ?_ (hK _ ?_) <;> clear hK <;> clear K
        · (first | exact trivial | omega | (simp only [In64] at *; omega) | (rw [Bool.eq_iff_iff]; simp; done) | (rw [Bool.eq_iff_iff]; simp; omega) | (simp [In64] at *; omega) | (simp_all; done) | (simp_all [In64] <;> omega) | skip)
        repeat (first | refine qa ?_ | refine qb ?_ | refine qc ?_ | refine qd ?_ | refine qe ?_ | refine qf ?_ | refine qg rfl ?_ | refine qh ?_ | refine qi ?_ | refine qj ?_ | refine qk ?_ | refine ql ?_ | refine qm ?_)
        refine ⟨i + 1, [0], by omega, by omega, ?_⟩
        rw [hsn, push, if_pos hc]
        simp only [AV.p.injEq, AV.sl.injEq, AV.ptr.injEq, Blk.own.injEq, PV.int.injEq, PV.bool.injEq, PV.list.injEq, Nat.sub_zero, Int.natCast_add, List.length_append, take_take_len, take_app1, take_app2, Le, LeH, LeS, LeB, ren, ren1, scA, sc1, List.nodup_cons, List.nodup_nil, List.mem_cons, List.not_mem_nil, or_false, not_false_eq_true, ev0, evA, evB, evP, gp, tab, simprocAttr, reduceCtorEq, reduceIte]
        (first | exact trivial | omega | (simp only [In64] at *; omega) | (rw [Bool.eq_iff_iff]; simp; done) | (rw [Bool.eq_iff_iff]; simp; omega) | (simp [In64] at *; omega) | (simp_all; done) | (simp_all [In64] <;> omega) | skip)
      · have hc := of_decide_eq_false hc
        refine hk_region fun K hK => runs_eval tab_ok ?_
        simp only [ev0, evA, evB, evP, gp, tab, simprocAttr, reduceCtorEq, reduceIte]
        refine fin_run ?_ (hK _ ?_) <;> clear hK <;> clear K
        · (first | exact trivial | omega | (simp only [In64] at *; omega) | (rw [Bool.eq_iff_iff]; simp; done) | (rw [Bool.eq_iff_iff]; simp; omega) | (simp [In64] at *; omega) | (simp_all; done) | (simp_all [In64] <;> omega) | skip)
        repeat (first | refine qa ?_ | refine qb ?_ | refine qc ?_ | refine qd ?_ | refine qe ?_ | refine qf ?_ | refine qg rfl ?_ | refine qh ?_ | refine qi ?_ | refine qj ?_ | refine qk ?_ | refine ql ?_ | refine qm ?_)
        refine hk_region fun K hK => runs_eval tab_ok ?_
        simp only [ev0, evA, evB, evP, gp, tab, simprocAttr, reduceCtorEq, reduceIte]
        refine fin_run ?_ (hK _ ?_) <;> clear hK <;> clear K
        · (first | exact trivial | omega | (simp only [In64] at *; omega) | (rw [Bool.eq_iff_iff]; simp; done) | (rw [Bool.eq_iff_iff]; simp; omega) | (simp [In64] at *; omega) | (simp_all; done) | (simp_all [In64] <;> omega) | skip)
        repeat (first | refine qa ?_ | refine qb ?_ | refine qc ?_ | refine qd ?_ | refine qe ?_ | refine qf ?_ | refine qg rfl ?_ | refine qh ?_ | refine qi ?_ | refine qj ?_ | refine qk ?_ | refine ql ?_ | refine qm ?_)
        refine ⟨i + 1, [1], by omega, by omega, ?_⟩
        rw [hsn, push, if_neg hc]
        simp only [AV.p.injEq, AV.sl.injEq, AV.ptr.injEq, Blk.own.injEq, PV.int.injEq, PV.bool.injEq, PV.list.injEq, Nat.sub_zero, Int.natCast_add, List.length_append, take_take_len, take_app1, take_app2, Le, LeH, LeS, LeB, ren, ren1, scA, sc1, List.nodup_cons, List.nodup_nil, List.mem_cons, List.not_mem_nil, or_false, not_false_eq_true, ev0, evA, evB, evP, gp, tab, simprocAttr, reduceCtorEq, reduceIte]
        (first | exact trivial | omega | (simp only [In64] at *; omega) | (rw [Bool.eq_iff_iff]; simp; done) | (rw [Bool.eq_iff_iff]; simp; omega) | (simp [In64] at *; omega) | (simp_all; done) | (simp_all [In64] <;> omega) | skip)
  · repeat (first | refine qa ?_ | refine qb ?_ | refine qc ?_ | refine qd ?_ | refine qe ?_ | refine qf ?_ | refine qg rfl ?_ | refine qh ?_ | refine qi ?_ | refine qj ?_ | refine qk ?_ | refine ql ?_ | refine qm ?_)
    (refine hk_region fun K hK => runs_eval tab_ok ?_); simp only [ev0, evA, evB, evP, gp, tab, simprocAttr, reduceCtorEq, reduceIte]; refine fin_run trivial (hK _ ?_) <;> clear hK <;> clear K; repeat (first | refine qa ?_ | refine qb ?_ | refine qc ?_ | refine qd ?_ | refine qe ?_ | refine qf ?_ | refine qg rfl ?_ | refine qh ?_ | refine qi ?_ | refine qj ?_ | refine qk ?_ | refine ql ?_ | refine qm ?_)
    simp only [Try.results54, Post, endA, rvsA, rvA, mkTup, peekA, peekG, peekS, peekList, PV.norm, PV.norm1, PV.norm0, PV.list.injEq, PV.tup.injEq, PV.agg.injEq, PV.int.injEq, PV.bool.injEq, List.cons.injEq, ev0, evA, evB, evP, gp, tab, simprocAttr, reduceCtorEq, reduceIte]
    have : i = w.length := by have := of_decide_eq_false hlt; omega
    rw [this, List.take_length]
    exact ⟨Nat.le_refl _, rfl⟩
def back (w : List Int) : List Int := (w.reverse).map (fun x => -x)
theorem own_c (w : List Int) (hl : w.length ≤ 1000000000) : FnC Try.prog 36 [.list (il w)] (.list (il w)) := by
  refine fnc_of tab_ok Try.func36 rfl (by kernel_rfl) (by rw [Try.ntmps36]; exact Nat.le_add_left 1 _) ?_; rw [Try.ntmps36]; repeat (first | refine qa ?_ | refine qb ?_ | refine qc ?_ | refine qd ?_ | refine qe ?_ | refine qf ?_ | refine qg rfl ?_ | refine qh ?_ | refine qi ?_ | refine qj ?_ | refine qk ?_ | refine ql ?_ | refine qm ?_)
  (refine hk_region fun K hK => runs_eval tab_ok ?_); simp only [ev0, evA, evB, evP, gp, tab, simprocAttr, reduceCtorEq, reduceIte]; refine fin_run trivial (hK _ ?_) <;> clear hK <;> clear K; repeat (first | refine qa ?_ | refine qb ?_ | refine qc ?_ | refine qd ?_ | refine qe ?_ | refine qf ?_ | refine qg rfl ?_ | refine qh ?_ | refine qi ?_ | refine qj ?_ | refine qk ?_ | refine ql ?_ | refine qm ?_)
  refine hk_region fun K hK => runs_eval tab_ok ?_
  simp only [ev0, evA, evB, evP, gp, tab, simprocAttr, reduceCtorEq, reduceIte]
  refine fin_run ?_ (hK _ ?_) <;> clear hK <;> clear K
  · (first | exact trivial | omega | (simp only [In64] at *; omega) | (rw [Bool.eq_iff_iff]; simp; done) | (rw [Bool.eq_iff_iff]; simp; omega) | (simp [In64] at *; omega) | (simp_all; done) | (simp_all [In64] <;> omega) | skip)
  repeat (first | refine qa ?_ | refine qb ?_ | refine qc ?_ | refine qd ?_ | refine qe ?_ | refine qf ?_ | refine qg rfl ?_ | refine qh ?_ | refine qi ?_ | refine qj ?_ | refine qk ?_ | refine ql ?_ | refine qm ?_)
  simp only [Try.results36, Post, endA, rvsA, rvA, mkTup, peekA, peekG, peekS, peekList, PV.norm, PV.norm1, PV.norm0, PV.list.injEq, PV.tup.injEq, PV.agg.injEq, PV.int.injEq, PV.bool.injEq, List.cons.injEq, ev0, evA, evB, evP, gp, tab, simprocAttr, reduceCtorEq, reduceIte]
  simp
theorem clone_c (w : List Int) (hl : w.length ≤ 1000000000) : FnC Try.prog 77 [.list (il w)] (.list (il w)) := by
  by_cases hw : w = []
  · subst hw
    refine fnc_of tab_ok Try.func77 rfl (by kernel_rfl) (by rw [Try.ntmps77]; exact Nat.le_add_left 1 _) ?_; rw [Try.ntmps77]; repeat (first | refine qa ?_ | refine qb ?_ | refine qc ?_ | refine qd ?_ | refine qe ?_ | refine qf ?_ | refine qg rfl ?_ | refine qh ?_ | refine qi ?_ | refine qj ?_ | refine qk ?_ | refine ql ?_ | refine qm ?_)
    (refine hk_region fun K hK => runs_eval tab_ok ?_); simp only [ev0, evA, evB, evP, gp, tab, simprocAttr, reduceCtorEq, reduceIte]; refine fin_run trivial (hK _ ?_) <;> clear hK <;> clear K; repeat (first | refine qa ?_ | refine qb ?_ | refine qc ?_ | refine qd ?_ | refine qe ?_ | refine qf ?_ | refine qg rfl ?_ | refine qh ?_ | refine qi ?_ | refine qj ?_ | refine qk ?_ | refine ql ?_ | refine qm ?_)
    refine hk_nil 0 rfl ?_ ?_
    · (refine hk_region fun K hK => runs_eval tab_ok ?_); simp only [ev0, evA, evB, evP, gp, tab, simprocAttr, reduceCtorEq, reduceIte]; refine fin_run trivial (hK _ ?_) <;> clear hK <;> clear K; repeat (first | refine qa ?_ | refine qb ?_ | refine qc ?_ | refine qd ?_ | refine qe ?_ | refine qf ?_ | refine qg rfl ?_ | refine qh ?_ | refine qi ?_ | refine qj ?_ | refine qk ?_ | refine ql ?_ | refine qm ?_)
      refine hk_cond rfl (fun hc => ?_) (fun hc => ?_)
      · repeat (first | refine qa ?_ | refine qb ?_ | refine qc ?_ | refine qd ?_ | refine qe ?_ | refine qf ?_ | refine qg rfl ?_ | refine qh ?_ | refine qi ?_ | refine qj ?_ | refine qk ?_ | refine ql ?_ | refine qm ?_)
        (refine hk_region fun K hK => runs_eval tab_ok ?_); simp only [ev0, evA, evB, evP, gp, tab, simprocAttr, reduceCtorEq, reduceIte]; refine fin_run trivial (hK _ ?_) <;> clear hK <;> clear K; repeat (first | refine qa ?_ | refine qb ?_ | refine qc ?_ | refine qd ?_ | refine qe ?_ | refine qf ?_ | refine qg rfl ?_ | refine qh ?_ | refine qi ?_ | refine qj ?_ | refine qk ?_ | refine ql ?_ | refine qm ?_)
        simp only [Try.results77, Post, endA, rvsA, rvA, mkTup, peekA, peekG, peekS, peekList, PV.norm, PV.norm1, PV.norm0, PV.list.injEq, PV.tup.injEq, PV.agg.injEq, PV.int.injEq, PV.bool.injEq, List.cons.injEq, ev0, evA, evB, evP, gp, tab, simprocAttr, reduceCtorEq, reduceIte]
        rfl
      · cases hc
    · (refine hk_region fun K hK => runs_eval tab_ok ?_); simp only [ev0, evA, evB, evP, gp, tab, simprocAttr, reduceCtorEq, reduceIte]; refine fin_run trivial (hK _ ?_) <;> clear hK <;> clear K; repeat (first | refine qa ?_ | refine qb ?_ | refine qc ?_ | refine qd ?_ | refine qe ?_ | refine qf ?_ | refine qg rfl ?_ | refine qh ?_ | refine qi ?_ | refine qj ?_ | refine qk ?_ | refine ql ?_ | refine qm ?_)
      refine hk_cond rfl (fun hc => ?_) (fun hc => ?_)
      · cases hc
      · repeat (first | refine qa ?_ | refine qb ?_ | refine qc ?_ | refine qd ?_ | refine qe ?_ | refine qf ?_ | refine qg rfl ?_ | refine qh ?_ | refine qi ?_ | refine qj ?_ | refine qk ?_ | refine ql ?_ | refine qm ?_)
        refine hk_region fun K hK => runs_eval tab_ok ?_
        simp only [ev0, evA, evB, evP, gp, tab, simprocAttr, reduceCtorEq, reduceIte]
        refine fin_stop trivial ?_
        refine runs_op (appendNz_does tab_ok rfl rfl rfl rfl rfl rfl rfl) rfl (by simp only [dstOk, Nat.reduceLT]) (runs_eval tab_ok ?_)
        simp only [ev0, evA, evB, evP, gp, tab, simprocAttr, reduceCtorEq, reduceIte]
        refine fin_run trivial (hK _ ?_) <;> clear hK <;> clear K
        repeat (first | refine qa ?_ | refine qb ?_ | refine qc ?_ | refine qd ?_ | refine qe ?_ | refine qf ?_ | refine qg rfl ?_ | refine qh ?_ | refine qi ?_ | refine qj ?_ | refine qk ?_ | refine ql ?_ | refine qm ?_)
        simp only [Try.results77, Post, endA, rvsA, rvA, mkTup, peekA, peekG, peekS, peekList, PV.norm, PV.norm1, PV.norm0, PV.list.injEq, PV.tup.injEq, PV.agg.injEq, PV.int.injEq, PV.bool.injEq, List.cons.injEq, ev0, evA, evB, evP, gp, tab, simprocAttr, reduceCtorEq, reduceIte]
        rfl
  · have hne : il w ≠ [] := by intro h; exact hw (by simpa [il] using h)
    refine fnc_of tab_ok Try.func77 rfl (by kernel_rfl) (by rw [Try.ntmps77]; exact Nat.le_add_left 1 _) ?_; rw [Try.ntmps77]; repeat (first | refine qa ?_ | refine qb ?_ | refine qc ?_ | refine qd ?_ | refine qe ?_ | refine qf ?_ | refine qg rfl ?_ | refine qh ?_ | refine qi ?_ | refine qj ?_ | refine qk ?_ | refine ql ?_ | refine qm ?_)
    (refine hk_region fun K hK => runs_eval tab_ok ?_); simp only [ev0, evA, evB, evP, gp, tab, simprocAttr, reduceCtorEq, reduceIte]; refine fin_run trivial (hK _ ?_) <;> clear hK <;> clear K; repeat (first | refine qa ?_ | refine qb ?_ | refine qc ?_ | refine qd ?_ | refine qe ?_ | refine qf ?_ | refine qg rfl ?_ | refine qh ?_ | refine qi ?_ | refine qj ?_ | refine qk ?_ | refine ql ?_ | refine qm ?_)
    refine hk_region fun K hK => runs_eval tab_ok ?_
    simp only [ev0, evA, evB, evP, gp, tab, simprocAttr, reduceCtorEq, reduceIte]
    refine fin_run ?_ (hK _ ?_) <;> clear hK <;> clear K
    · exact hne
    repeat (first | refine qa ?_ | refine qb ?_ | refine qc ?_ | refine qd ?_ | refine qe ?_ | refine qf ?_ | refine qg rfl ?_ | refine qh ?_ | refine qi ?_ | refine qj ?_ | refine qk ?_ | refine ql ?_ | refine qm ?_)
    refine hk_cond rfl (fun hc => ?_) (fun hc => ?_)
    · cases hc
    · repeat (first | refine qa ?_ | refine qb ?_ | refine qc ?_ | refine qd ?_ | refine qe ?_ | refine qf ?_ | refine qg rfl ?_ | refine qh ?_ | refine qi ?_ | refine qj ?_ | refine qk ?_ | refine ql ?_ | refine qm ?_)
      refine hk_region fun K hK => runs_eval tab_ok ?_
      simp only [ev0, evA, evB, evP, gp, tab, simprocAttr, reduceCtorEq, reduceIte]
      refine fin_run ?_ (hK _ ?_) <;> clear hK <;> clear K
      · have : 0 < w.length := List.length_pos_iff.2 hw
        (first | exact trivial | omega | (simp only [In64] at *; omega) | (rw [Bool.eq_iff_iff]; simp; done) | (rw [Bool.eq_iff_iff]; simp; omega) | (simp [In64] at *; omega) | (simp_all; done) | (simp_all [In64] <;> omega) | skip)
      repeat (first | refine qa ?_ | refine qb ?_ | refine qc ?_ | refine qd ?_ | refine qe ?_ | refine qf ?_ | refine qg rfl ?_ | refine qh ?_ | refine qi ?_ | refine qj ?_ | refine qk ?_ | refine ql ?_ | refine qm ?_)
      simp only [Try.results77, Post, endA, rvsA, rvA, mkTup, peekA, peekG, peekS, peekList, PV.norm, PV.norm1, PV.norm0, PV.list.injEq, PV.tup.injEq, PV.agg.injEq, PV.int.injEq, PV.bool.injEq, List.cons.injEq, ev0, evA, evB, evP, gp, tab, simprocAttr, reduceCtorEq, reduceIte]
      exact Nat.le_refl _
def tot (ls : List (List Int)) : Nat := ls.flatten.length
end Go.Proofs.Ytneglephfhiamaa

namespace Go.Proofs.Ytneglephfhiamaa
open Go.Pv
theorem Sm.app {v w : List Int} (hv : Sm v) (hw : Sm w) : Sm (v ++ w) := by
  intro x hx
  rcases List.mem_append.1 hx with h | h
  · exact hv x h
  · exact hw x h
def Red (o : List Int) : Prop := ∀ i, i + 1 < o.length → o.getD i 0 ≠ -(o.getD (i + 1) 0)
theorem getD_take {o : List Int} {n i : Nat} (h : i < n) : (o.take n).getD i 0 = o.getD i 0 := by
  simp [List.getD, List.getElem?_take, h]
theorem Red.take {o : List Int} (h : Red o) (n : Nat) : Red (o.take n) := by
  intro i hi
  rw [List.length_take] at hi
  rw [getD_take (by omega), getD_take (by omega)]
  exact h i (by omega)
theorem f_c (c a : Int) : FnC Try.prog 25 [.int .i64 c, .int .i64 a] (.agg [.int .i64 c, .int .i64 a]) := by
  refine fnc_of tab_ok Try.func25 rfl (by kernel_rfl) (by rw [Try.ntmps25]; exact Nat.le_add_left 2 _) ?_; rw [Try.ntmps25]; repeat (first | refine qa ?_ | refine qb ?_ | refine qc ?_ | refine qd ?_ | refine qe ?_ | refine qf ?_ | refine qg rfl ?_ | refine qh ?_ | refine qi ?_ | refine qj ?_ | refine qk ?_ | refine ql ?_ | refine qm ?_)
  (refine hk_region fun K hK => runs_eval tab_ok ?_); simp only [ev0, evA, evB, evP, gp, tab, simprocAttr, reduceCtorEq, reduceIte]; refine fin_run trivial (hK _ ?_) <;> clear hK <;> clear K; repeat (first | refine qa ?_ | refine qb ?_ | refine qc ?_ | refine qd ?_ | refine qe ?_ | refine qf ?_ | refine qg rfl ?_ | refine qh ?_ | refine qi ?_ | refine qj ?_ | refine qk ?_ | refine ql ?_ | refine qm ?_)
  (refine hk_region fun K hK => runs_eval tab_ok ?_); simp only [ev0, evA, evB, evP, gp, tab, simprocAttr, reduceCtorEq, reduceIte]; refine fin_run trivial (hK _ ?_) <;> clear hK <;> clear K; repeat (first | refine qa ?_ | refine qb ?_ | refine qc ?_ | refine qd ?_ | refine qe ?_ | refine qf ?_ | refine qg rfl ?_ | refine qh ?_ | refine qi ?_ | refine qj ?_ | refine qk ?_ | refine ql ?_ | refine qm ?_)
  simp only [Try.results25, Post, endA, rvsA, rvA, mkTup, peekA, peekG, peekS, peekList, PV.norm, PV.norm1, PV.norm0, PV.list.injEq, PV.tup.injEq, PV.agg.injEq, PV.int.injEq, PV.bool.injEq, List.cons.injEq, ev0, evA, evB, evP, gp, tab, simprocAttr, reduceCtorEq, reduceIte]
theorem wordFault_c (w : List Int) : FnC Try.prog 28 [.list (il w)] (fl (check w)) := by
  refine fnc_of tab_ok Try.func28 rfl (by kernel_rfl) (by rw [Try.ntmps28]; exact Nat.le_add_left 1 _) ?_; rw [Try.ntmps28]; repeat (first | refine qa ?_ | refine qb ?_ | refine qc ?_ | refine qd ?_ | refine qe ?_ | refine qf ?_ | refine qg rfl ?_ | refine qh ?_ | refine qi ?_ | refine qj ?_ | refine qk ?_ | refine ql ?_ | refine qm ?_)
  (refine hk_region fun K hK => runs_eval tab_ok ?_); simp only [ev0, evA, evB, evP, gp, tab, simprocAttr, reduceCtorEq, reduceIte]; refine fin_run trivial (hK _ ?_) <;> clear hK <;> clear K; repeat (first | refine qa ?_ | refine qb ?_ | refine qc ?_ | refine qd ?_ | refine qe ?_ | refine qf ?_ | refine qg rfl ?_ | refine qh ?_ | refine qi ?_ | refine qj ?_ | refine qk ?_ | refine ql ?_ | refine qm ?_)
  (refine hk_region fun K hK => runs_eval tab_ok ?_); simp only [ev0, evA, evB, evP, gp, tab, simprocAttr, reduceCtorEq, reduceIte]; refine fin_run trivial (hK _ ?_) <;> clear hK <;> clear K; repeat (first | refine qa ?_ | refine qb ?_ | refine qc ?_ | refine qd ?_ | refine qe ?_ | refine qf ?_ | refine qg rfl ?_ | refine qh ?_ | refine qi ?_ | refine qj ?_ | refine qk ?_ | refine ql ?_ | refine qm ?_)
  refine hk_cond rfl (fun h => ?_) (fun h => ?_)
  · repeat (first | refine qa ?_ | refine qb ?_ | refine qc ?_ | refine qd ?_ | refine qe ?_ | refine qf ?_ | refine qg rfl ?_ | refine qh ?_ | refine qi ?_ | refine qj ?_ | refine qk ?_ | refine ql ?_ | refine qm ?_)
    refine hk_region fun K hK => runs_eval tab_ok ?_
    simp only [ev0, evA, evB, evP, gp, tab, simprocAttr, reduceCtorEq, reduceIte]
    refine fin_stop trivial (runs_call (f_c 2 0) rfl rfl rfl (by simp only [dstOk, Nat.reduceLT]) (by repeat (first | exact trivial | constructor)) (runs_eval tab_ok ?_))
    simp only [ev0, evA, evB, evP, gp, tab, simprocAttr, reduceCtorEq, reduceIte]
    refine fin_run trivial (hK _ ?_) <;> clear hK <;> clear K
    repeat (first | refine qa ?_ | refine qb ?_ | refine qc ?_ | refine qd ?_ | refine qe ?_ | refine qf ?_ | refine qg rfl ?_ | refine qh ?_ | refine qi ?_ | refine qj ?_ | refine qk ?_ | refine ql ?_ | refine qm ?_)
    simp only [Try.results28, Post, endA, rvsA, rvA, mkTup, peekA, peekG, peekS, peekList, PV.norm, PV.norm1, PV.norm0, PV.list.injEq, PV.tup.injEq, PV.agg.injEq, PV.int.injEq, PV.bool.injEq, List.cons.injEq, ev0, evA, evB, evP, gp, tab, simprocAttr, reduceCtorEq, reduceIte]
    simp [check, fl, of_decide_eq_true h]
  · have hw : w.length ≤ 2000 := by have := of_decide_eq_false h; omega
    repeat (first | refine qa ?_ | refine qb ?_ | refine qc ?_ | refine qd ?_ | refine qe ?_ | refine qf ?_ | refine qg rfl ?_ | refine qh ?_ | refine qi ?_ | refine qj ?_ | refine qk ?_ | refine ql ?_ | refine qm ?_)
    (refine hk_region fun K hK => runs_eval tab_ok ?_); simp only [ev0, evA, evB, evP, gp, tab, simprocAttr, reduceCtorEq, reduceIte]; refine fin_run trivial (hK _ ?_) <;> clear hK <;> clear K; repeat (first | refine qa ?_ | refine qb ?_ | refine qc ?_ | refine qd ?_ | refine qe ?_ | refine qf ?_ | refine qg rfl ?_ | refine qh ?_ | refine qi ?_ | refine qj ?_ | refine qk ?_ | refine ql ?_ | refine qm ?_)
    refine hk_loop (ι := Nat) (fun i => ⟨36, [(0, .p (.list (il w))), (2, .ptr 0 0), (3, .p (.int .i64 i))], [.own [.p (.int .i64 0), .p (.int .i64 0)]]⟩) (fun i => i ≤ w.length ∧ chk i (w.drop i) = chk 0 w) (fun i => w.length - i) 0 ⟨Nat.zero_le _, rfl⟩ [0] (by simp only [AV.p.injEq, AV.sl.injEq, AV.ptr.injEq, Blk.own.injEq, PV.int.injEq, PV.bool.injEq, PV.list.injEq, Nat.sub_zero, Int.natCast_add, List.length_append, take_take_len, take_app1, take_app2, Le, LeH, LeS, LeB, ren, ren1, scA, sc1, List.nodup_cons, List.nodup_nil, List.mem_cons, List.not_mem_nil, or_false, not_false_eq_true, ev0, evA, evB, evP, gp, tab, simprocAttr, reduceCtorEq, reduceIte] <;> trivial) fun i hi => ?_
    repeat (first | refine qa ?_ | refine qb ?_ | refine qc ?_ | refine qd ?_ | refine qe ?_ | refine qf ?_ | refine qg rfl ?_ | refine qh ?_ | refine qi ?_ | refine qj ?_ | refine qk ?_ | refine ql ?_ | refine qm ?_)
    (refine hk_region fun K hK => runs_eval tab_ok ?_); simp only [ev0, evA, evB, evP, gp, tab, simprocAttr, reduceCtorEq, reduceIte]; refine fin_run trivial (hK _ ?_) <;> clear hK <;> clear K; repeat (first | refine qa ?_ | refine qb ?_ | refine qc ?_ | refine qd ?_ | refine qe ?_ | refine qf ?_ | refine qg rfl ?_ | refine qh ?_ | refine qi ?_ | refine qj ?_ | refine qk ?_ | refine ql ?_ | refine qm ?_)
    refine hk_cond rfl (fun hlt => ?_) (fun hlt => ?_)
    · repeat (first | refine qa ?_ | refine qb ?_ | refine qc ?_ | refine qd ?_ | refine qe ?_ | refine qf ?_ | refine qg rfl ?_ | refine qh ?_ | refine qi ?_ | refine qj ?_ | refine qk ?_ | refine ql ?_ | refine qm ?_)
      have hlt : i < w.length := by have := of_decide_eq_true hlt; omega
      obtain ⟨hi1, hi2⟩ := hi
      have hdrop : w.drop i = w.getD i 0 :: w.drop (i + 1) := by
        rw [List.drop_eq_getElem_cons hlt]; simp [List.getD, List.getElem?_eq_getElem hlt]
      have next : ¬ (w.getD i 0 = 0 ∨ w.getD i 0 < -26 ∨ w.getD i 0 > 26) → chk (i + 1) (w.drop (i + 1)) = chk 0 w := by
        intro hn
        rw [hdrop, chk, if_neg hn] at hi2; exact hi2
      have last : (w.getD i 0 = 0 ∨ w.getD i 0 < -26 ∨ w.getD i 0 > 26) → chk 0 w = (3, (i : Int)) := by
        intro hn
        rw [hdrop, chk, if_pos hn] at hi2; exact hi2.symm
      have hg := il_get hlt
      refine hk_cut ⟨36, [(32, .p (.bool (decide (w.getD i 0 = 0 ∨ w.getD i 0 < -26 ∨ w.getD i 0 > 26)))), (0, .p (.list (il w))), (2, .ptr 0 0), (3, .p (.int .i64 i))], [.own [.p (.int .i64 0), .p (.int .i64 0)]]⟩ ?_ ?_
      · generalize w.getD i 0 = x at *
        cases e1 : (x == 0)
        · cases e2 : decide (x > 26)
          · refine hk_region fun K hK => runs_eval tab_ok ?_
            simp only [ev0, evA, evB, evP, gp, tab, simprocAttr, reduceCtorEq, reduceIte, hg, e1, e2]
            refine fin_run ?_ (hK _ ?_) <;> clear hK <;> clear K
            · omega
            refine ⟨rfl, [0], ?_⟩; simp only [AV.p.injEq, AV.sl.injEq, AV.ptr.injEq, Blk.own.injEq, PV.int.injEq, PV.bool.injEq, PV.list.injEq, Nat.sub_zero, Int.natCast_add, List.length_append, take_take_len, take_app1, take_app2, Le, LeH, LeS, LeB, ren, ren1, scA, sc1, List.nodup_cons, List.nodup_nil, List.mem_cons, List.not_mem_nil, or_false, not_false_eq_true, ev0, evA, evB, evP, gp, tab, simprocAttr, reduceCtorEq, reduceIte]; (first | exact trivial | omega | (simp only [In64] at *; omega) | (rw [Bool.eq_iff_iff]; simp; done) | (rw [Bool.eq_iff_iff]; simp; omega) | (simp [In64] at *; omega) | (simp_all; done) | (simp_all [In64] <;> omega) | skip)
          · refine hk_region fun K hK => runs_eval tab_ok ?_
            simp only [ev0, evA, evB, evP, gp, tab, simprocAttr, reduceCtorEq, reduceIte, hg, e1, e2]
            refine fin_run ?_ (hK _ ?_) <;> clear hK <;> clear K
            · omega
            refine ⟨rfl, [0], ?_⟩; simp only [AV.p.injEq, AV.sl.injEq, AV.ptr.injEq, Blk.own.injEq, PV.int.injEq, PV.bool.injEq, PV.list.injEq, Nat.sub_zero, Int.natCast_add, List.length_append, take_take_len, take_app1, take_app2, Le, LeH, LeS, LeB, ren, ren1, scA, sc1, List.nodup_cons, List.nodup_nil, List.mem_cons, List.not_mem_nil, or_false, not_false_eq_true, ev0, evA, evB, evP, gp, tab, simprocAttr, reduceCtorEq, reduceIte]; (first | exact trivial | omega | (simp only [In64] at *; omega) | (rw [Bool.eq_iff_iff]; simp; done) | (rw [Bool.eq_iff_iff]; simp; omega) | (simp [In64] at *; omega) | (simp_all; done) | (simp_all [In64] <;> omega) | skip)
        · refine hk_region fun K hK => runs_eval tab_ok ?_
          simp only [ev0, evA, evB, evP, gp, tab, simprocAttr, reduceCtorEq, reduceIte, hg, e1]
          refine fin_run ?_ (hK _ ?_) <;> clear hK <;> clear K
          · omega
          refine ⟨rfl, [0], ?_⟩; simp only [AV.p.injEq, AV.sl.injEq, AV.ptr.injEq, Blk.own.injEq, PV.int.injEq, PV.bool.injEq, PV.list.injEq, Nat.sub_zero, Int.natCast_add, List.length_append, take_take_len, take_app1, take_app2, Le, LeH, LeS, LeB, ren, ren1, scA, sc1, List.nodup_cons, List.nodup_nil, List.mem_cons, List.not_mem_nil, or_false, not_false_eq_true, ev0, evA, evB, evP, gp, tab, simprocAttr, reduceCtorEq, reduceIte]; (first | exact trivial | omega | (simp only [In64] at *; omega) | (rw [Bool.eq_iff_iff]; simp; done) | (rw [Bool.eq_iff_iff]; simp; omega) | (simp [In64] at *; omega) | (simp_all; done) | (simp_all [In64] <;> omega) | skip)
      · refine hk_cond rfl (fun hc => ?_) (fun hc => ?_)
        · repeat (first | refine qa ?_ | refine qb ?_ | refine qc ?_ | refine qd ?_ | refine qe ?_ | refine qf ?_ | refine qg rfl ?_ | refine qh ?_ | refine qi ?_ | refine qj ?_ | refine qk ?_ | refine ql ?_ | refine qm ?_)
          refine hk_region fun K hK => runs_eval tab_ok ?_
          simp only [ev0, evA, evB, evP, gp, tab, simprocAttr, reduceCtorEq, reduceIte]
          refine fin_stop trivial (runs_call (f_c 3 i) rfl rfl rfl (by simp only [dstOk, Nat.reduceLT]) (by repeat (first | exact trivial | constructor)) (runs_eval tab_ok ?_))
          simp only [ev0, evA, evB, evP, gp, tab, simprocAttr, reduceCtorEq, reduceIte]
          refine fin_run trivial (hK _ ?_) <;> clear hK <;> clear K
          repeat (first | refine qa ?_ | refine qb ?_ | refine qc ?_ | refine qd ?_ | refine qe ?_ | refine qf ?_ | refine qg rfl ?_ | refine qh ?_ | refine qi ?_ | refine qj ?_ | refine qk ?_ | refine ql ?_ | refine qm ?_)
          simp only [Try.results28, Post, endA, rvsA, rvA, mkTup, peekA, peekG, peekS, peekList, PV.norm, PV.norm1, PV.norm0, PV.list.injEq, PV.tup.injEq, PV.agg.injEq, PV.int.injEq, PV.bool.injEq, List.cons.injEq, ev0, evA, evB, evP, gp, tab, simprocAttr, reduceCtorEq, reduceIte]
          rw [check, if_neg (by omega), last (of_decide_eq_true hc)]; rfl
        · repeat (first | refine qa ?_ | refine qb ?_ | refine qc ?_ | refine qd ?_ | refine qe ?_ | refine qf ?_ | refine qg rfl ?_ | refine qh ?_ | refine qi ?_ | refine qj ?_ | refine qk ?_ | refine ql ?_ | refine qm ?_)
          refine hk_region fun K hK => runs_eval tab_ok ?_
          simp only [ev0, evA, evB, evP, gp, tab, simprocAttr, reduceCtorEq, reduceIte]
          refine fin_run ?_ (hK _ ?_) <;> clear hK <;> clear K
          · (first | exact trivial | omega | (simp only [In64] at *; omega) | (rw [Bool.eq_iff_iff]; simp; done) | (rw [Bool.eq_iff_iff]; simp; omega) | (simp [In64] at *; omega) | (simp_all; done) | (simp_all [In64] <;> omega) | skip)
          repeat (first | refine qa ?_ | refine qb ?_ | refine qc ?_ | refine qd ?_ | refine qe ?_ | refine qf ?_ | refine qg rfl ?_ | refine qh ?_ | refine qi ?_ | refine qj ?_ | refine qk ?_ | refine ql ?_ | refine qm ?_)
          refine ⟨i + 1, [0], ⟨by omega, next (of_decide_eq_false hc)⟩, by omega, ?_⟩
          simp only [AV.p.injEq, AV.sl.injEq, AV.ptr.injEq, Blk.own.injEq, PV.int.injEq, PV.bool.injEq, PV.list.injEq, Nat.sub_zero, Int.natCast_add, List.length_append, take_take_len, take_app1, take_app2, Le, LeH, LeS, LeB, ren, ren1, scA, sc1, List.nodup_cons, List.nodup_nil, List.mem_cons, List.not_mem_nil, or_false, not_false_eq_true, ev0, evA, evB, evP, gp, tab, simprocAttr, reduceCtorEq, reduceIte] <;> (first | exact trivial | omega | (simp only [In64] at *; omega) | (rw [Bool.eq_iff_iff]; simp; done) | (rw [Bool.eq_iff_iff]; simp; omega) | (simp [In64] at *; omega) | (simp_all; done) | (simp_all [In64] <;> omega) | skip)
    · repeat (first | refine qa ?_ | refine qb ?_ | refine qc ?_ | refine qd ?_ | refine qe ?_ | refine qf ?_ | refine qg rfl ?_ | refine qh ?_ | refine qi ?_ | refine qj ?_ | refine qk ?_ | refine ql ?_ | refine qm ?_)
      (refine hk_region fun K hK => runs_eval tab_ok ?_); simp only [ev0, evA, evB, evP, gp, tab, simprocAttr, reduceCtorEq, reduceIte]; refine fin_run trivial (hK _ ?_) <;> clear hK <;> clear K; repeat (first | refine qa ?_ | refine qb ?_ | refine qc ?_ | refine qd ?_ | refine qe ?_ | refine qf ?_ | refine qg rfl ?_ | refine qh ?_ | refine qi ?_ | refine qj ?_ | refine qk ?_ | refine ql ?_ | refine qm ?_)
      simp only [Try.results28, Post, endA, rvsA, rvA, mkTup, peekA, peekG, peekS, peekList, PV.norm, PV.norm1, PV.norm0, PV.list.injEq, PV.tup.injEq, PV.agg.injEq, PV.int.injEq, PV.bool.injEq, List.cons.injEq, ev0, evA, evB, evP, gp, tab, simprocAttr, reduceCtorEq, reduceIte]
      have : i = w.length := by have := of_decide_eq_false hlt; omega
      rw [check, if_neg (by omega), ← hi.2, this, List.drop_length]; rfl
theorem ints_c (v w : List Int) (hl : v.length ≤ 1000000000) : FnC Try.prog 21 [.list (il v), .list (il w)] (.bool (decide (v = w))) := by
  refine fnc_of tab_ok Try.func21 rfl (by kernel_rfl) (by rw [Try.ntmps21]; exact Nat.le_add_left 2 _) ?_; rw [Try.ntmps21]; repeat (first | refine qa ?_ | refine qb ?_ | refine qc ?_ | refine qd ?_ | refine qe ?_ | refine qf ?_ | refine qg rfl ?_ | refine qh ?_ | refine qi ?_ | refine qj ?_ | refine qk ?_ | refine ql ?_ | refine qm ?_)
  (refine hk_region fun K hK => runs_eval tab_ok ?_); simp only [ev0, evA, evB, evP, gp, tab, simprocAttr, reduceCtorEq, reduceIte]; refine fin_run trivial (hK _ ?_) <;> clear hK <;> clear K; repeat (first | refine qa ?_ | refine qb ?_ | refine qc ?_ | refine qd ?_ | refine qe ?_ | refine qf ?_ | refine qg rfl ?_ | refine qh ?_ | refine qi ?_ | refine qj ?_ | refine qk ?_ | refine ql ?_ | refine qm ?_)
  (refine hk_region fun K hK => runs_eval tab_ok ?_); simp only [ev0, evA, evB, evP, gp, tab, simprocAttr, reduceCtorEq, reduceIte]; refine fin_run trivial (hK _ ?_) <;> clear hK <;> clear K; repeat (first | refine qa ?_ | refine qb ?_ | refine qc ?_ | refine qd ?_ | refine qe ?_ | refine qf ?_ | refine qg rfl ?_ | refine qh ?_ | refine qi ?_ | refine qj ?_ | refine qk ?_ | refine ql ?_ | refine qm ?_)
  refine hk_cond rfl (fun hn => ?_) (fun hn => ?_)
  · repeat (first | refine qa ?_ | refine qb ?_ | refine qc ?_ | refine qd ?_ | refine qe ?_ | refine qf ?_ | refine qg rfl ?_ | refine qh ?_ | refine qi ?_ | refine qj ?_ | refine qk ?_ | refine ql ?_ | refine qm ?_)
    (refine hk_region fun K hK => runs_eval tab_ok ?_); simp only [ev0, evA, evB, evP, gp, tab, simprocAttr, reduceCtorEq, reduceIte]; refine fin_run trivial (hK _ ?_) <;> clear hK <;> clear K; repeat (first | refine qa ?_ | refine qb ?_ | refine qc ?_ | refine qd ?_ | refine qe ?_ | refine qf ?_ | refine qg rfl ?_ | refine qh ?_ | refine qi ?_ | refine qj ?_ | refine qk ?_ | refine ql ?_ | refine qm ?_)
    simp only [Try.results21, Post, endA, rvsA, rvA, mkTup, peekA, peekG, peekS, peekList, PV.norm, PV.norm1, PV.norm0, PV.list.injEq, PV.tup.injEq, PV.agg.injEq, PV.int.injEq, PV.bool.injEq, List.cons.injEq, ev0, evA, evB, evP, gp, tab, simprocAttr, reduceCtorEq, reduceIte]
    have : v ≠ w := by intro h; subst h; simp at hn
    simp [this]
  · have hn : v.length = w.length := by simp at hn; omega
    repeat (first | refine qa ?_ | refine qb ?_ | refine qc ?_ | refine qd ?_ | refine qe ?_ | refine qf ?_ | refine qg rfl ?_ | refine qh ?_ | refine qi ?_ | refine qj ?_ | refine qk ?_ | refine ql ?_ | refine qm ?_)
    (refine hk_region fun K hK => runs_eval tab_ok ?_); simp only [ev0, evA, evB, evP, gp, tab, simprocAttr, reduceCtorEq, reduceIte]; refine fin_run trivial (hK _ ?_) <;> clear hK <;> clear K; repeat (first | refine qa ?_ | refine qb ?_ | refine qc ?_ | refine qd ?_ | refine qe ?_ | refine qf ?_ | refine qg rfl ?_ | refine qh ?_ | refine qi ?_ | refine qj ?_ | refine qk ?_ | refine ql ?_ | refine qm ?_)
    refine hk_loop (ι := Nat) (fun i => ⟨26, [(0, .p (.list (il v))), (1, .p (.list (il w))), (5, .p (.int .i64 i))], []⟩) (fun i => i ≤ v.length ∧ v.take i = w.take i) (fun i => v.length - i) 0 ⟨Nat.zero_le _, rfl⟩ [] (by simp only [AV.p.injEq, AV.sl.injEq, AV.ptr.injEq, Blk.own.injEq, PV.int.injEq, PV.bool.injEq, PV.list.injEq, Nat.sub_zero, Int.natCast_add, List.length_append, take_take_len, take_app1, take_app2, Le, LeH, LeS, LeB, ren, ren1, scA, sc1, List.nodup_cons, List.nodup_nil, List.mem_cons, List.not_mem_nil, or_false, not_false_eq_true, ev0, evA, evB, evP, gp, tab, simprocAttr, reduceCtorEq, reduceIte] <;> trivial) fun i hi => ?_
    obtain ⟨hi1, hi2⟩ := hi
    repeat (first | refine qa ?_ | refine qb ?_ | refine qc ?_ | refine qd ?_ | refine qe ?_ | refine qf ?_ | refine qg rfl ?_ | refine qh ?_ | refine qi ?_ | refine qj ?_ | refine qk ?_ | refine ql ?_ | refine qm ?_)
    (refine hk_region fun K hK => runs_eval tab_ok ?_); simp only [ev0, evA, evB, evP, gp, tab, simprocAttr, reduceCtorEq, reduceIte]; refine fin_run trivial (hK _ ?_) <;> clear hK <;> clear K; repeat (first | refine qa ?_ | refine qb ?_ | refine qc ?_ | refine qd ?_ | refine qe ?_ | refine qf ?_ | refine qg rfl ?_ | refine qh ?_ | refine qi ?_ | refine qj ?_ | refine qk ?_ | refine ql ?_ | refine qm ?_)
    refine hk_cond rfl (fun hlt => ?_) (fun hlt => ?_)
    · have hlt : i < v.length := by have := of_decide_eq_true hlt; omega
      repeat (first | refine qa ?_ | refine qb ?_ | refine qc ?_ | refine qd ?_ | refine qe ?_ | refine qf ?_ | refine qg rfl ?_ | refine qh ?_ | refine qi ?_ | refine qj ?_ | refine qk ?_ | refine ql ?_ | refine qm ?_)
      refine hk_draw mixed (by kernel_rfl) fun K hK => runs_eval tab_ok ?_
      simp only [ev0, evA, evB, evP, gp, tab, simprocAttr, reduceCtorEq, reduceIte, il_get hlt, il_get (show i < w.length by omega)]
      refine fin_run ?_ (hK _ ?_) <;> clear hK <;> clear K
      · omega
      repeat (first | refine qa ?_ | refine qb ?_ | refine qc ?_ | refine qd ?_ | refine qe ?_ | refine qf ?_ | refine qg rfl ?_ | refine qh ?_ | refine qi ?_ | refine qj ?_ | refine qk ?_ | refine ql ?_ | refine qm ?_)
      refine hk_cond rfl (fun hc => ?_) (fun hc => ?_)
      · repeat (first | refine qa ?_ | refine qb ?_ | refine qc ?_ | refine qd ?_ | refine qe ?_ | refine qf ?_ | refine qg rfl ?_ | refine qh ?_ | refine qi ?_ | refine qj ?_ | refine qk ?_ | refine ql ?_ | refine qm ?_)
        (refine hk_region fun K hK => runs_eval tab_ok ?_); simp only [ev0, evA, evB, evP, gp, tab, simprocAttr, reduceCtorEq, reduceIte]; refine fin_run trivial (hK _ ?_) <;> clear hK <;> clear K; repeat (first | refine qa ?_ | refine qb ?_ | refine qc ?_ | refine qd ?_ | refine qe ?_ | refine qf ?_ | refine qg rfl ?_ | refine qh ?_ | refine qi ?_ | refine qj ?_ | refine qk ?_ | refine ql ?_ | refine qm ?_)
        simp only [Try.results21, Post, endA, rvsA, rvA, mkTup, peekA, peekG, peekS, peekList, PV.norm, PV.norm1, PV.norm0, PV.list.injEq, PV.tup.injEq, PV.agg.injEq, PV.int.injEq, PV.bool.injEq, List.cons.injEq, ev0, evA, evB, evP, gp, tab, simprocAttr, reduceCtorEq, reduceIte]
        have : v ≠ w := by intro h; subst h; simp at hc
        simp [this]
      · repeat (first | refine qa ?_ | refine qb ?_ | refine qc ?_ | refine qd ?_ | refine qe ?_ | refine qf ?_ | refine qg rfl ?_ | refine qh ?_ | refine qi ?_ | refine qj ?_ | refine qk ?_ | refine ql ?_ | refine qm ?_)
        refine hk_region fun K hK => runs_eval tab_ok ?_
        simp only [ev0, evA, evB, evP, gp, tab, simprocAttr, reduceCtorEq, reduceIte]
        refine fin_run ?_ (hK _ ?_) <;> clear hK <;> clear K
        · (first | exact trivial | omega | (simp only [In64] at *; omega) | (rw [Bool.eq_iff_iff]; simp; done) | (rw [Bool.eq_iff_iff]; simp; omega) | (simp [In64] at *; omega) | (simp_all; done) | (simp_all [In64] <;> omega) | skip)
        repeat (first | refine qa ?_ | refine qb ?_ | refine qc ?_ | refine qd ?_ | refine qe ?_ | refine qf ?_ | refine qg rfl ?_ | refine qh ?_ | refine qi ?_ | refine qj ?_ | refine qk ?_ | refine ql ?_ | refine qm ?_)
        have hx : v.getD i 0 = w.getD i 0 := by simpa using hc
        refine ⟨i + 1, [], ⟨by omega, ?_⟩, by omega, ?_⟩
        · rw [List.take_succ_eq_append_getElem hlt, List.take_succ_eq_append_getElem (show i < w.length by omega), hi2]
          simp [List.getD, List.getElem?_eq_getElem hlt, List.getElem?_eq_getElem (show i < w.length by omega)] at hx
          rw [hx]
        · simp only [AV.p.injEq, AV.sl.injEq, AV.ptr.injEq, Blk.own.injEq, PV.int.injEq, PV.bool.injEq, PV.list.injEq, Nat.sub_zero, Int.natCast_add, List.length_append, take_take_len, take_app1, take_app2, Le, LeH, LeS, LeB, ren, ren1, scA, sc1, List.nodup_cons, List.nodup_nil, List.mem_cons, List.not_mem_nil, or_false, not_false_eq_true, ev0, evA, evB, evP, gp, tab, simprocAttr, reduceCtorEq, reduceIte] <;> (first | exact trivial | omega | (simp only [In64] at *; omega) | (rw [Bool.eq_iff_iff]; simp; done) | (rw [Bool.eq_iff_iff]; simp; omega) | (simp [In64] at *; omega) | (simp_all; done) | (simp_all [In64] <;> omega) | skip)
    · repeat (first | refine qa ?_ | refine qb ?_ | refine qc ?_ | refine qd ?_ | refine qe ?_ | refine qf ?_ | refine qg rfl ?_ | refine qh ?_ | refine qi ?_ | refine qj ?_ | refine qk ?_ | refine ql ?_ | refine qm ?_)
      (refine hk_region fun K hK => runs_eval tab_ok ?_); simp only [ev0, evA, evB, evP, gp, tab, simprocAttr, reduceCtorEq, reduceIte]; refine fin_run trivial (hK _ ?_) <;> clear hK <;> clear K; repeat (first | refine qa ?_ | refine qb ?_ | refine qc ?_ | refine qd ?_ | refine qe ?_ | refine qf ?_ | refine qg rfl ?_ | refine qh ?_ | refine qi ?_ | refine qj ?_ | refine qk ?_ | refine ql ?_ | refine qm ?_)
      simp only [Try.results21, Post, endA, rvsA, rvA, mkTup, peekA, peekG, peekS, peekList, PV.norm, PV.norm1, PV.norm0, PV.list.injEq, PV.tup.injEq, PV.agg.injEq, PV.int.injEq, PV.bool.injEq, List.cons.injEq, ev0, evA, evB, evP, gp, tab, simprocAttr, reduceCtorEq, reduceIte]
      have : i = v.length := by have := of_decide_eq_false hlt; omega
      subst this
      rw [List.take_length, List.take_of_length_le (by omega)] at hi2
      simp [hi2]
end Go.Proofs.Ytneglephfhiamaa

namespace Go.Pv
open Go.RowKit
abbrev Mp := Int → Option Int
def mps (k : Nat) : List AV := (List.range k).map fun i => .mptr (i + 3)
def updM (f : Mp) (z x : Int) : Mp := fun u => if u = z then some x else f u
end Go.Pv
namespace Go.Proofs.Ytneglephfhiamaa
open Go.Pv
def Fo (U : List Int) : Prop := ∀ i, i < U.length → 0 ≤ U.getD i 0 ∧ U.getD i 0 ≤ (i : Int)
def ofS : Nat → List Int → Nat → Nat × List Int
  | 0, U, v => (v, U)
  | n + 1, U, v => if U.getD v 0 = (v : Int) then (v, U) else
    ofS n (U.set v (U.getD (U.getD v 0).toNat 0)) (U.getD (U.getD v 0).toNat 0).toNat
def ofV (U : List Int) (v : Nat) : Nat := (ofS (v + 1) U v).1
def ofU (U : List Int) (v : Nat) : List Int := (ofS (v + 1) U v).2
theorem Fo.half {U : List Int} (h : Fo U) {v : Nat} (hv : v < U.length) : Fo (U.set v (U.getD (U.getD v 0).toNat 0)) ∧ (U.getD (U.getD v 0).toNat 0).toNat ≤ (U.getD v 0).toNat ∧ (U.getD v 0).toNat ≤ v ∧ 0 ≤ U.getD (U.getD v 0).toNat 0 := by
  obtain ⟨h1, h2⟩ := h v hv
  obtain ⟨h3, h4⟩ := h (U.getD v 0).toNat (by omega)
  refine ⟨fun i hi => ?_, by omega, by omega, h3⟩
  rw [List.length_set] at hi
  rw [List.getD_eq_getElem?_getD, List.getElem?_set]
  split
  · rename_i e
    simp only [Option.getD_some]; omega
  · rw [← List.getD_eq_getElem?_getD]; exact h i hi
theorem ofS_fuel : ∀ (n m : Nat) (U : List Int) (v : Nat), Fo U → v < U.length → v < n → v < m → ofS n U v = ofS m U v
  | 0, _, _, _, _, _, h, _ => absurd h (Nat.not_lt_zero _)
  | _, 0, _, _, _, _, _, h => absurd h (Nat.not_lt_zero _)
  | n + 1, m + 1, U, v, hU, hv, h1, h2 => by
    rw [ofS, ofS]
    split
    · rfl
    · rename_i hne
      obtain ⟨g1, g2, g3, g4⟩ := hU.half hv
      have hb := hU v hv
      exact ofS_fuel n m _ _ g1 (by rw [List.length_set]; omega) (by omega) (by omega)
theorem ofS_len : ∀ (n : Nat) (U : List Int) (v : Nat), (ofS n U v).2.length = U.length
  | 0, _, _ => rfl
  | n + 1, U, v => by
    rw [ofS]
    split
    · rfl
    · rw [ofS_len n]; simp
theorem ofU_len (U : List Int) (v : Nat) : (ofU U v).length = U.length := ofS_len _ _ _
section
variable {G : List Mp} {U : List Int}
end
end Go.Proofs.Ytneglephfhiamaa

namespace Go.Pv
open Go.RowKit
section
variable {P : Program} {T : TypeId → Option TI} {s : St}
theorem build1a_does (hT : ∀ t ti, T t = some ti → tiOf P t = some ti) {o : Oper} {t : TypeId} {x : Operand} (ho : o.op = .buildSlice t 1 #[(0, x)]) {ti te : TI} (ht : T t = some ti) {e : TypeId} (hk : ti.kind = .slice e) (hte : T e = some te) (hsz : te.size = 1)
    {av : AV} (hx : s.ev x = av) (hc1 : av.cells = [av]) (hok : cellOk av = true) : DoesW P o s (.sl s.H.length 0 1) (s.H ++ [.own [av]]) := by
  intro C m a w K Q R hK
  have hu := ti_slice (hT _ _ ht) hk
  obtain ⟨i, d, z, h1, h2, h3, h4, h5, h6, h7, h8⟩ := tiOf_parts (hT _ _ hte)
  have hss := ti_size (hT _ _ hte) w
  rw [hsz] at hss
  obtain ⟨cs', k2, k3, k5⟩ := fillA_run R (fun i => some (i * 1, 1)) [(0, x)] (c := [.dead]) (c' := [av]) (cs := (Array.range (1 * 1)).map (z.cells[· % z.cells.size]!)) (p := (([av].length = 1 ∧ 0 * 1 + 1 ≤ [AV.dead].length ∧ [av].all cellOk = true) ∧ True)) (by simp) (fun j hj => by
      simp only [List.length_cons, List.length_nil] at hj
      obtain rfl : j = 0 := by omega
      exact .dead _) (by
    simp only [List.map_cons, List.map_nil, fillA, hx, hc1, setC]
    rfl) ⟨⟨rfl, Nat.le_refl _, by simp [hok]⟩, trivial⟩
  have hrun : (execOp a.eval o).run P w = .ok (.value (.slice (some ⟨w.heap.size, 0, none⟩) 1 1)) (w.alloc (.cells cs' e)) := by
    have hpt : (#[(0, x)].map fun q : Nat × Operand => (q.1, a.eval q.2)).toList = [(0, x)].map fun q => (q.1, a.eval q.2) := by simp
    have hne : ¬ (1 * 1 > 2 ^ 24) := by decide
    simp only [execOp, ho, Instr.buildSlice, Sem.run_bind, run_underlying hu, Result.andThen_ok, hss, Sem.run_ite, hne, if_false, show ¬ (1 * 1 = 0) by decide, zeroValue, typeInfo, run_program, h1, h3, Sem.run_pure, newRow] at k2 ⊢
    simp only [hpt, k2, Sem.run_bind, run_newObj, Result.andThen_ok, Sem.run_pure]
    rfl
  have hrel := R.newBlk (below_alloc _) (cur := cs') (e := e) (heap_alloc_new w _) (le_mxl (by rw [k3]; simp [maxLen])) (c := [av]) (by rw [k3]; exact Nat.le_refl _) k5
  refine opR_of_wp (by first | rfl | (rw [ho]; rfl)) ?_
  unfold Oper.wp
  rw [hrun]
  exact hK _ _ _ hrel (.sl _ _ _ _ (by simp) <| .inr ⟨⟨w.heap.size, 0, cs'.size⟩, 1, by simp [mput], by simp, Nat.le_refl _, by simp only; rw [k3]; exact Nat.le_refl _⟩)
end
end Go.Pv
namespace Go.Proofs.Ytneglephfhiamaa
open Go.Pv
theorem leH_at {π : List Nat} {H : Heap} : ∀ {ks : List Nat} {H1 : Heap}, ks.length = H1.length → (∀ i, i < H1.length → LeB π H (ks.getD i 0) (hget H1 i)) → LeH π H ks H1
  | [], [], _, _ => trivial
  | [], _ :: _, h, _ => by simp at h
  | _ :: _, [], h, _ => by simp at h
  | k :: ks, b :: r, h, hb => ⟨by simpa [hget] using hb 0 (by simp), leH_at (by simpa using h) fun i hi => by simpa [hget] using hb (i + 1) (by simpa using hi)⟩
theorem leH_app {π : List Nat} {H : Heap} : ∀ {k1 k2 : List Nat} {H1 H2 : Heap}, LeH π H k1 H1 → LeH π H k2 H2 → LeH π H (k1 ++ k2) (H1 ++ H2)
  | [], _, [], _, _, h => h
  | [], _, _ :: _, _, h, _ => h.elim
  | _ :: _, _, [], _, h, _ => h.elim
  | _ :: _, _, _ :: _, _, h, h2 => ⟨h.1, leH_app h.2 h2⟩
theorem leH_seg {π : List Nat} {H B : Heap} {a : Nat} (h : ∀ i, i < B.length → hget H (a + i) = hget B i) (hr : ∀ b ∈ B, LeB π [b] 0 b) : LeH π H (List.range' a B.length) B := by
  refine leH_at (by simp) fun i hi => ?_
  have e : (List.range' a B.length).getD i 0 = a + i := by simp [List.getD, List.getElem?_range' hi]
  have hm := hr (hget B i) (by rw [hget_eq, List.getD_eq_getElem?_getD, List.getElem?_eq_getElem hi]; exact List.getElem_mem hi)
  rw [e]
  have h2 : hget H (a + i) = hget [hget B i] 0 := h i hi
  revert hm
  generalize hget B i = b at h2 ⊢
  intro hm
  cases b <;> simp only [LeB, h2] at hm ⊢ <;> exact hm
theorem leB_ol {π : List Nat} {H : Heap} {k : Nat} {l : List Int} (h : hget H k = .own (ol l)) : LeB π H k (.own (ol l)) := by
  simp only [LeB, h]
  exact ⟨by rw [List.take_of_length_le (Nat.le_refl _)]; simp [ol, Go.Pv.ren, Go.Pv.ren1], ol_sc _ _⟩
section
variable {G : List Mp} {U : List Int}
end
end Go.Proofs.Ytneglephfhiamaa

namespace Go.Proofs.Ytneglephfhiamaa
open Go.Pv
def rtN : Nat → List Int → Nat → Nat
  | 0, _, v => v
  | n + 1, U, v => if U.getD v 0 = (v : Int) then v else rtN n U (U.getD v 0).toNat
def rV (U : List Int) (v : Nat) : Nat := rtN (v + 1) U v
theorem Fo.dn {U : List Int} (h : Fo U) {v : Nat} (hv : v < U.length) (hn : ¬ U.getD v 0 = (v : Int)) : (U.getD v 0).toNat < v := by
  have := h v hv
  omega
theorem rtN_fuel : ∀ (n m : Nat) (U : List Int) (v : Nat), Fo U → v < U.length → v < n → v < m → rtN n U v = rtN m U v
  | 0, _, _, _, _, _, h, _ => absurd h (Nat.not_lt_zero _)
  | _, 0, _, _, _, _, _, h => absurd h (Nat.not_lt_zero _)
  | n + 1, m + 1, U, v, hU, hv, h1, h2 => by
    rw [rtN, rtN]
    split
    · rfl
    · rename_i hne
      have := hU.dn hv hne
      exact rtN_fuel n m U _ hU (by omega) (by omega) (by omega)
theorem rV_self {U : List Int} {v : Nat} (h : U.getD v 0 = (v : Int)) : rV U v = v := by
  rw [rV, rtN, if_pos h]
theorem rV_up {U : List Int} (hU : Fo U) {v : Nat} (hv : v < U.length) : rV U (U.getD v 0).toNat = rV U v := by
  by_cases h : U.getD v 0 = (v : Int)
  · rw [h]; simp
  · have hd := hU.dn hv h
    conv => rhs; rw [rV, rtN, if_neg h]
    exact rtN_fuel _ _ _ _ hU (by omega) (by omega) (by omega)
theorem rV_le {U : List Int} (hU : Fo U) : ∀ (v : Nat), v < U.length → rV U v ≤ v := by
  intro v
  induction v using Nat.strongRecOn with
  | ind v ih =>
    intro hv
    by_cases h : U.getD v 0 = (v : Int)
    · rw [rV_self h]; exact Nat.le_refl _
    · have hd := hU.dn hv h
      rw [← rV_up hU hv]
      have := ih _ hd (by omega)
      omega
theorem rV_root {U : List Int} (hU : Fo U) : ∀ (v : Nat), v < U.length → U.getD (rV U v) 0 = (rV U v : Int) := by
  intro v
  induction v using Nat.strongRecOn with
  | ind v ih =>
    intro hv
    by_cases h : U.getD v 0 = (v : Int)
    · rw [rV_self h]; exact h
    · have hd := hU.dn hv h
      rw [← rV_up hU hv]
      exact ih _ hd (by omega)
theorem rV_idem {U : List Int} (hU : Fo U) {v : Nat} (hv : v < U.length) : rV U (rV U v) = rV U v := rV_self (rV_root hU v hv)
theorem getD_set {U : List Int} {y i : Nat} {z : Int} (hy : y < U.length) : (U.set y z).getD i 0 = if i = y then z else U.getD i 0 := by
  rw [List.getD_eq_getElem?_getD, List.getElem?_set]
  by_cases h : y = i
  · subst h; simp [hy]
  · rw [if_neg h, if_neg (fun e => h e.symm), List.getD_eq_getElem?_getD]
theorem rV_half {U : List Int} (hU : Fo U) {y : Nat} (hy : y < U.length) : ∀ u, u < U.length → rV (U.set y (U.getD (U.getD y 0).toNat 0)) u = rV U u := by
  have hF := (hU.half hy).1
  have hl : (U.set y (U.getD (U.getD y 0).toNat 0)).length = U.length := List.length_set
  intro u
  induction u using Nat.strongRecOn with
  | ind u ih =>
    intro hu
    by_cases hyu : u = y
    · subst hyu
      by_cases h : U.getD u 0 = (u : Int)
      · rw [rV_self h]
        refine rV_self ?_
        rw [getD_set hy, if_pos rfl, h]
        simpa using h
      · have hd := hU.dn hy h
        have g1 : (U.set u (U.getD (U.getD u 0).toNat 0)).getD u 0 = U.getD (U.getD u 0).toNat 0 := by rw [getD_set hy, if_pos rfl]
        have g2 := hU (U.getD u 0).toNat (by omega)
        rw [← rV_up hF (by rw [hl]; exact hy), g1, ih _ (by omega) (by omega), rV_up hU (by omega), rV_up hU hy]
    · have g1 : (U.set y (U.getD (U.getD y 0).toNat 0)).getD u 0 = U.getD u 0 := by rw [getD_set hy, if_neg hyu]
      by_cases h : U.getD u 0 = (u : Int)
      · rw [rV_self h, rV_self (by rw [g1]; exact h)]
      · have hd := hU.dn hu h
        rw [← rV_up hF (by rw [hl]; exact hu), g1, ih _ hd (by omega), rV_up hU hu]
theorem ofS_spec : ∀ (n : Nat) (U : List Int) (v : Nat), Fo U → v < U.length → v < n → (ofS n U v).1 = rV U v ∧ Fo (ofS n U v).2 ∧ (ofS n U v).2.length = U.length ∧ ∀ u, u < U.length → rV (ofS n U v).2 u = rV U u
  | 0, _, _, _, _, h => absurd h (Nat.not_lt_zero _)
  | n + 1, U, v, hU, hv, hn => by
    rw [ofS]
    split
    · rename_i h
      exact ⟨(rV_self h).symm, hU, rfl, fun _ _ => rfl⟩
    · rename_i h
      have hd := hU.dn hv h
      obtain ⟨g1, g2, g3, g4⟩ := hU.half hv
      have hl : (U.set v (U.getD (U.getD v 0).toNat 0)).length = U.length := List.length_set
      obtain ⟨i1, i2, i3, i4⟩ := ofS_spec n (U.set v (U.getD (U.getD v 0).toNat 0)) (U.getD (U.getD v 0).toNat 0).toNat g1 (by omega) (by omega)
      refine ⟨?_, i2, by omega, fun u hu => ?_⟩
      · rw [i1, rV_half hU hv _ (by omega), rV_up hU (by omega), rV_up hU hv]
      · rw [i4 u (by omega), rV_half hU hv u hu]
theorem ofV_eq {U : List Int} (hU : Fo U) {v : Nat} (hv : v < U.length) : ofV U v = rV U v := (ofS_spec _ _ _ hU hv (Nat.lt_succ_self _)).1
theorem ofU_fo {U : List Int} (hU : Fo U) {v : Nat} (hv : v < U.length) : Fo (ofU U v) := (ofS_spec _ _ _ hU hv (Nat.lt_succ_self _)).2.1
theorem ofU_rV {U : List Int} (hU : Fo U) {v : Nat} (hv : v < U.length) {u : Nat} (hu : u < U.length) : rV (ofU U v) u = rV U u := (ofS_spec _ _ _ hU hv (Nat.lt_succ_self _)).2.2.2 u hu
theorem Fo.join {U : List Int} (hU : Fo U) {keep gone : Nat} (hg : gone < U.length) (hk : keep < gone) : Fo (U.set gone keep) := fun i hi => by
  rw [List.length_set] at hi
  rw [getD_set hg]
  split
  · omega
  · exact hU i hi
theorem rV_join {U : List Int} (hU : Fo U) {keep gone : Nat} (hg : gone < U.length) (hk : keep < gone) (h1 : U.getD keep 0 = (keep : Int)) (h2 : U.getD gone 0 = (gone : Int)) : ∀ u, u < U.length → rV (U.set gone (keep : Int)) u = if rV U u = gone then keep else rV U u := by
  have hF := hU.join hg hk
  have hl : (U.set gone (keep : Int)).length = U.length := List.length_set
  have hk2 : rV (U.set gone (keep : Int)) keep = keep := rV_self (by rw [getD_set hg, if_neg (by omega)]; exact h1)
  intro u
  induction u using Nat.strongRecOn with
  | ind u ih =>
    intro hu
    by_cases hug : u = gone
    · subst hug
      rw [rV_self h2, if_pos rfl, ← rV_up hF (by omega), getD_set hg, if_pos rfl, Int.toNat_natCast, hk2]
    · by_cases h : U.getD u 0 = (u : Int)
      · rw [rV_self h, if_neg hug]
        exact rV_self (by rw [getD_set hg, if_neg hug]; exact h)
      · have hd := hU.dn hu h
        rw [← rV_up hF (by omega), getD_set hg, if_neg hug, ih _ hd (by omega), rV_up hU hu]
theorem Fo.snoc {U : List Int} (hU : Fo U) : Fo (U ++ [(U.length : Int)]) := fun i hi => by
  rw [List.length_append, List.length_singleton] at hi
  rw [List.getD_eq_getElem?_getD]
  by_cases h : i < U.length
  · rw [List.getElem?_append_left h, ← List.getD_eq_getElem?_getD]; exact hU i h
  · have : i = U.length := by omega
    subst this
    simp
theorem getD_snoc {U : List Int} {z : Int} {i : Nat} (h : i < U.length) : (U ++ [z]).getD i 0 = U.getD i 0 := by
  rw [List.getD_eq_getElem?_getD, List.getElem?_append_left h, ← List.getD_eq_getElem?_getD]
theorem rV_snoc {U : List Int} (hU : Fo U) : ∀ u, u < U.length → rV (U ++ [(U.length : Int)]) u = rV U u := by
  intro u
  induction u using Nat.strongRecOn with
  | ind u ih =>
    intro hu
    by_cases h : U.getD u 0 = (u : Int)
    · rw [rV_self h, rV_self (by rw [getD_snoc hu]; exact h)]
    · have hd := hU.dn hu h
      rw [← rV_up hU.snoc (by simp; omega), getD_snoc hu, ih _ hd (by omega), rV_up hU hu]
theorem rV_new (U : List Int) : rV (U ++ [(U.length : Int)]) U.length = U.length := rV_self (by simp)
end Go.Proofs.Ytneglephfhiamaa

namespace Go.Proofs.Ytneglephfhiamaa
open Go.Pv
abbrev E3 := Nat × Int × Nat
def gm (G : List Mp) (i : Nat) : Mp := G.getD i fun _ => none
structure WG (G : List Mp) (U : List Int) : Prop where
  len : U.length = G.length
  fo : Fo U
  ent : ∀ v x d, v < G.length → gm G v x = some d → 0 ≤ d ∧ d.toNat < G.length ∧ x ≠ 0 ∧ -26 ≤ x ∧ x ≤ 26
def Ed (G : List Mp) (U : List Int) (u : Nat) (x : Int) (v : Nat) : Prop := ∃ d, gm G (rV U u) x = some d ∧ rV U d.toNat = rV U v
def OkW (k : Nat) (W : List E3) : Prop := ∀ t ∈ W, t.1 < k ∧ t.2.2 < k ∧ t.2.1 ≠ 0 ∧ -26 ≤ t.2.1 ∧ t.2.1 ≤ 26
def Pe (G : List Mp) (U : List Int) (W : List E3) (u : Nat) (x : Int) (v : Nat) : Prop := Ed G U u x v ∨ ∃ t ∈ W, rV U t.1 = rV U u ∧ t.2.1 = x ∧ rV U t.2.2 = rV U v
def SymW (G : List Mp) (U : List Int) (W : List E3) : Prop := ∀ u x v, u < G.length → v < G.length → Pe G U W u x v → Pe G U W v (-x) u
def Cmp {X : Type} (step : X → Int → Option X) (κ : Nat → X) (G : List Mp) (U : List Int) (W : List E3) : Prop :=
  (∀ u, u < G.length → κ (rV U u) = κ u) ∧ ∀ u x v, u < G.length → v < G.length → Pe G U W u x v → step (κ u) x = some (κ v)
structure Nxt (G : List Mp) (U : List Int) (W : List E3) (G' : List Mp) (U' : List Int) (W' : List E3) : Prop where
  len : G'.length = G.length
  same : ∀ u v, u < G.length → v < G.length → rV U u = rV U v → rV U' u = rV U' v
  keep : ∀ u x v, u < G.length → v < G.length → Pe G U W u x v → Pe G' U' W' u x v
  sym : SymW G' U' W'
  cmp : ∀ (X : Type) (step : X → Int → Option X) (κ : Nat → X), Cmp step κ G U W → Cmp step κ G' U' W'
theorem Nxt.refl {G : List Mp} {U : List Int} {W : List E3} (h : SymW G U W) : Nxt G U W G U W := ⟨rfl, fun _ _ _ _ h => h, fun _ _ _ _ _ h => h, h, fun _ _ _ h => h⟩
theorem Nxt.trans {G G' G2 : List Mp} {U U' U2 : List Int} {W W' W2 : List E3} (h : Nxt G U W G' U' W') (h2 : Nxt G' U' W' G2 U2 W2) : Nxt G U W G2 U2 W2 :=
  ⟨h2.len.trans h.len, fun u v hu hv e => h2.same u v (by rw [h.len]; exact hu) (by rw [h.len]; exact hv) (h.same u v hu hv e),
   fun u x v hu hv e => h2.keep u x v (by rw [h.len]; exact hu) (by rw [h.len]; exact hv) (h.keep u x v hu hv e), h2.sym, fun X s k c => h2.cmp X s k (h.cmp X s k c)⟩
theorem WG.rlt {G : List Mp} {U : List Int} (w : WG G U) {u : Nat} (h : u < G.length) : rV U u < G.length :=
  Nat.lt_of_le_of_lt (rV_le w.fo u (by rw [w.len]; exact h)) h
theorem WG.idem {G : List Mp} {U : List Int} (w : WG G U) {u : Nat} (h : u < G.length) : rV U (rV U u) = rV U u := rV_idem w.fo (by rw [w.len]; exact h)
theorem Pe.mv {G : List Mp} {U : List Int} {W : List E3} {u v u2 v2 : Nat} {x : Int} (h : Pe G U W u x v) (h1 : rV U u = rV U u2) (h2 : rV U v = rV U v2) : Pe G U W u2 x v2 := by
  rcases h with ⟨d, a, b⟩ | ⟨t, a, b, c, e⟩
  · exact .inl ⟨d, by rw [← h1]; exact a, b.trans h2⟩
  · exact .inr ⟨t, a, b.trans h1, c, e.trans h2⟩
theorem nxt_iff {G G' : List Mp} {U U' : List Int} {W W' : List E3} (hl : G'.length = G.length) (hs : SymW G U W) (hr : ∀ u, u < G.length → rV U' u = rV U u) (h : ∀ u x v, u < G.length → v < G.length → (Pe G' U' W' u x v ↔ Pe G U W u x v)) : Nxt G U W G' U' W' :=
  ⟨hl, fun u v hu hv e => by rw [hr u hu, hr v hv]; exact e, fun u x v hu hv e => (h u x v hu hv).2 e,
   fun u x v hu hv e => by rw [hl] at hu hv; exact (h _ _ _ hv hu).2 (hs u x v hu hv ((h u x v hu hv).1 e)),
   fun X s k c => ⟨fun u hu => by rw [hl] at hu; rw [hr u hu]; exact c.1 u hu, fun u x v hu hv e => by rw [hl] at hu hv; exact c.2 u x v hu hv ((h u x v hu hv).1 e)⟩⟩
theorem Ed.rv {G : List Mp} {U U' : List Int} (w : WG G U) (hr : ∀ u, u < G.length → rV U' u = rV U u) {u v : Nat} {x : Int} (hu : u < G.length) (hv : v < G.length) : Ed G U' u x v ↔ Ed G U u x v := by
  unfold Ed
  rw [hr u hu, hr v hv]
  constructor
  · rintro ⟨d, a, b⟩
    exact ⟨d, a, by rw [← hr _ (w.ent _ _ _ (w.rlt hu) a).2.1]; exact b⟩
  · rintro ⟨d, a, b⟩
    exact ⟨d, a, by rw [hr _ (w.ent _ _ _ (w.rlt hu) a).2.1]; exact b⟩
theorem nxt_up {G : List Mp} {U U' : List Int} {W : List E3} (w : WG G U) (hW : OkW G.length W) (hs : SymW G U W) (hr : ∀ u, u < G.length → rV U' u = rV U u) : Nxt G U W G U' W :=
  nxt_iff rfl hs hr fun u x v hu hv => by
    unfold Pe
    rw [Ed.rv w hr hu hv]
    refine or_congr Iff.rfl ⟨?_, ?_⟩
    · rintro ⟨t, a, b, c, d⟩
      exact ⟨t, a, by rw [← hr _ (hW t a).1, ← hr u hu]; exact b, c, by rw [← hr _ (hW t a).2.1, ← hr v hv]; exact d⟩
    · rintro ⟨t, a, b, c, d⟩
      exact ⟨t, a, by rw [hr _ (hW t a).1, hr u hu]; exact b, c, by rw [hr _ (hW t a).2.1, hr v hv]; exact d⟩
theorem WG.up {G : List Mp} {U U' : List Int} (w : WG G U) (hl : U'.length = U.length) (hf : Fo U') : WG G U' := ⟨hl.trans w.len, hf, w.ent⟩
theorem gm_set {G : List Mp} {i j : Nat} {f : Mp} (h : i < G.length) : gm (G.set i f) j = if j = i then f else gm G j := by
  unfold gm
  rw [List.getD_eq_getElem?_getD, List.getElem?_set]
  by_cases e : i = j
  · subst e; simp [h]
  · rw [if_neg e, if_neg (fun x => e x.symm), List.getD_eq_getElem?_getD]
theorem nxt_put {G : List Mp} {U : List Int} {W : List E3} {a b : Nat} {x : Int} (w : WG G U) (hs : SymW G U (W ++ [(a, x, b)])) (ha : a < G.length) (hb : b < G.length) (hn : gm G (rV U a) x = none) :
    Nxt G U (W ++ [(a, x, b)]) (G.set (rV U a) (updM (gm G (rV U a)) x (rV U b : Nat))) U W :=
  nxt_iff (by simp) hs (fun _ _ => rfl) fun u y v hu hv => by
    have hra := w.rlt ha
    constructor
    · rintro (⟨d, h1, h2⟩ | ⟨t, h1, h2⟩)
      · rw [gm_set hra] at h1
        split at h1
        · rename_i e
          unfold updM at h1
          split at h1
          · rename_i e2
            subst e2
            obtain rfl := Option.some.inj h1
            rw [Int.toNat_natCast, w.idem hb] at h2
            exact .inr ⟨(a, y, b), by simp, e.symm, rfl, h2⟩
          · exact .inl ⟨d, by rw [e]; exact h1, h2⟩
        · exact .inl ⟨d, h1, h2⟩
      · exact .inr ⟨t, by simp [h1], h2⟩
    · rintro (⟨d, h1, h2⟩ | ⟨t, h1, h2, h3, h4⟩)
      · refine .inl ⟨d, ?_, h2⟩
        rw [gm_set hra]
        split
        · rename_i e
          unfold updM
          split
          · rename_i e2
            subst e2
            rw [e, hn] at h1; cases h1
          · rw [← e]; exact h1
        · exact h1
      · rcases List.mem_append.1 h1 with h1 | h1
        · exact .inr ⟨t, h1, h2, h3, h4⟩
        · rw [List.mem_singleton] at h1
          subst h1
          refine .inl ⟨(rV U b : Nat), ?_, ?_⟩
          · rw [gm_set hra, if_pos h2.symm]
            unfold updM
            rw [if_pos h3.symm]
          · rw [Int.toNat_natCast, w.idem hb]; exact h4
theorem WG.put {G : List Mp} {U : List Int} (w : WG G U) {a b : Nat} {x : Int} (ha : a < G.length) (hb : b < G.length) (hx : x ≠ 0 ∧ -26 ≤ x ∧ x ≤ 26) : WG (G.set (rV U a) (updM (gm G (rV U a)) x (rV U b : Nat))) U := by
  refine ⟨by rw [List.length_set]; exact w.len, w.fo, fun v y d hv h => ?_⟩
  rw [List.length_set] at hv ⊢
  rw [gm_set (w.rlt ha)] at h
  split at h
  · rename_i e
    unfold updM at h
    split at h
    · rename_i e2
      obtain rfl := Option.some.inj h
      have := w.rlt hb
      exact ⟨by omega, by omega, by rw [e2]; exact hx⟩
    · exact w.ent _ _ _ (w.rlt ha) h
  · exact w.ent _ _ _ hv h
theorem nxt_has {G : List Mp} {U : List Int} {W : List E3} {a b : Nat} {x c : Int} (hs : SymW G U (W ++ [(a, x, b)])) (hc : gm G (rV U a) x = some c) (he : rV U c.toNat = rV U b) : Nxt G U (W ++ [(a, x, b)]) G U W :=
  nxt_iff rfl hs (fun _ _ => rfl) fun u y v hu hv => by
    constructor
    · rintro (h | ⟨t, h1, h2⟩)
      · exact .inl h
      · exact .inr ⟨t, by simp [h1], h2⟩
    · rintro (h | ⟨t, h1, h2, h3, h4⟩)
      · exact .inl h
      · rcases List.mem_append.1 h1 with h1 | h1
        · exact .inr ⟨t, h1, h2, h3, h4⟩
        · rw [List.mem_singleton] at h1
          subst h1
          refine .inl ⟨c, ?_, he.trans h4⟩
          simp only at h2 h3
          rw [← h2, ← h3]; exact hc
def goneW (f : Mp) (keep : Nat) (L : List Int) : List E3 := L.flatMap fun y => [(keep, y, ((f y).getD 0).toNat), (((f y).getD 0).toNat, -y, keep)]
theorem nxt_join {G : List Mp} {U : List Int} {W : List E3} {a b : Nat} {x c : Int} (w : WG G U) (hW : OkW G.length (W ++ [(a, x, b)])) (hs : SymW G U (W ++ [(a, x, b)])) (hc : gm G (rV U a) x = some c) {keep gone : Nat}
    (hk : keep < gone) (hkg : (keep = rV U b ∧ gone = rV U c.toNat) ∨ (keep = rV U c.toNat ∧ gone = rV U b)) {L : List Int} (hL : ∀ y, (gm G gone y).isSome = true ↔ y ∈ L) :
    Nxt G U (W ++ [(a, x, b)]) G (U.set gone keep) (W ++ goneW (gm G gone) keep L) := by
  obtain ⟨ha, hb, hx0⟩ := hW (a, x, b) (by simp)
  simp only at ha hb hx0
  obtain ⟨_, hcl, _⟩ := w.ent _ _ _ (w.rlt ha) hc
  have hkl : keep < G.length := hkg.elim (fun ⟨h, _⟩ => by rw [h]; exact w.rlt hb) (fun ⟨h, _⟩ => by rw [h]; exact w.rlt hcl)
  have hgl : gone < G.length := hkg.elim (fun ⟨_, h⟩ => by rw [h]; exact w.rlt hcl) (fun ⟨_, h⟩ => by rw [h]; exact w.rlt hb)
  have hkr : rV U keep = keep := hkg.elim (fun ⟨h, _⟩ => by rw [h]; exact w.idem hb) (fun ⟨h, _⟩ => by rw [h]; exact w.idem hcl)
  have hgr : rV U gone = gone := hkg.elim (fun ⟨_, h⟩ => by rw [h]; exact w.idem hcl) (fun ⟨_, h⟩ => by rw [h]; exact w.idem hb)
  have k1 : U.getD keep 0 = (keep : Int) := by have := rV_root w.fo keep (by rw [w.len]; exact hkl); rwa [hkr] at this
  have k2 : U.getD gone 0 = (gone : Int) := by have := rV_root w.fo gone (by rw [w.len]; exact hgl); rwa [hgr] at this
  have hr : ∀ u, u < G.length → rV (U.set gone (keep : Int)) u = if rV U u = gone then keep else rV U u := fun u hu => rV_join w.fo (by rw [w.len]; exact hgl) hk k1 k2 u (by rw [w.len]; exact hu)
  have hcb : rV (U.set gone (keep : Int)) c.toNat = rV (U.set gone (keep : Int)) b := by
    rw [hr _ hcl, hr _ hb]
    rcases hkg with ⟨h1, h2⟩ | ⟨h1, h2⟩
    · rw [if_pos h2.symm, if_neg (by omega)]; exact h1
    · rw [if_pos h2.symm, if_neg (by omega)]; exact h1.symm
  have same : ∀ u v, u < G.length → v < G.length → rV U u = rV U v → rV (U.set gone (keep : Int)) u = rV (U.set gone (keep : Int)) v := fun u v hu hv e => by rw [hr u hu, hr v hv, e]
  have hkk : rV (U.set gone (keep : Int)) keep = keep := by rw [hr _ hkl, if_neg (by omega)]; exact hkr
  have hgk : rV (U.set gone (keep : Int)) gone = keep := by rw [hr _ hgl, if_pos hgr]
  have mg : ∀ {y d}, gm G gone y = some d → (keep, y, d.toNat) ∈ goneW (gm G gone) keep L ∧ (d.toNat, -y, keep) ∈ goneW (gm G gone) keep L := fun {y d} h => by
    unfold goneW
    constructor <;> exact List.mem_flatMap.2 ⟨y, (hL y).1 (by rw [h]; rfl), by simp [h]⟩
  have gmem : ∀ t ∈ goneW (gm G gone) keep L, ∃ y d, gm G gone y = some d ∧ (t = (keep, y, d.toNat) ∨ t = (d.toNat, -y, keep)) := fun t ht => by
    obtain ⟨y, hy, h⟩ := List.mem_flatMap.1 ht
    have := (hL y).2 hy
    obtain ⟨d, hd⟩ := Option.isSome_iff_exists.1 this
    rw [hd] at h
    simp only [Option.getD_some, List.mem_cons, List.not_mem_nil, or_false] at h
    exact ⟨y, d, hd, h⟩
  have ed : ∀ u y d v, u < G.length → v < G.length → gm G (rV U u) y = some d → rV (U.set gone (keep : Int)) d.toNat = rV (U.set gone (keep : Int)) v → Pe G (U.set gone (keep : Int)) (W ++ goneW (gm G gone) keep L) u y v := fun u y d v hu hv h1 h2 => by
    by_cases e : rV U u = gone
    · rw [e] at h1
      exact .inr ⟨_, List.mem_append_right _ (mg h1).1, by simp only; rw [hkk, hr u hu, if_pos e], rfl, h2⟩
    · exact .inl ⟨d, by rw [hr u hu, if_neg e]; exact h1, h2⟩
  have keepP : ∀ u y v, u < G.length → v < G.length → Pe G U (W ++ [(a, x, b)]) u y v → Pe G (U.set gone (keep : Int)) (W ++ goneW (gm G gone) keep L) u y v := by
    intro u y v hu hv h
    rcases h with ⟨d, h1, h2⟩ | ⟨t, h1, h2, h3, h4⟩
    · exact ed u y d v hu hv h1 (same _ _ (w.ent _ _ _ (w.rlt hu) h1).2.1 hv h2)
    · rcases List.mem_append.1 h1 with h1 | h1
      · obtain ⟨t1, t2, _⟩ := hW t (by simp [h1])
        exact .inr ⟨t, List.mem_append_left _ h1, same _ _ t1 hu h2, h3, same _ _ t2 hv h4⟩
      · rw [List.mem_singleton] at h1
        subst h1
        simp only at h2 h3 h4
        subst h3
        exact ed u x c v hu hv (by rw [← h2]; exact hc) (hcb.trans (same _ _ hb hv h4))
  have back : ∀ u y v, u < G.length → v < G.length → Pe G (U.set gone (keep : Int)) (W ++ goneW (gm G gone) keep L) u y v →
      (∃ u0 v0, u0 < G.length ∧ v0 < G.length ∧ rV (U.set gone (keep : Int)) u0 = rV (U.set gone (keep : Int)) u ∧ rV (U.set gone (keep : Int)) v0 = rV (U.set gone (keep : Int)) v ∧ Pe G U (W ++ [(a, x, b)]) u0 y v0) := by
    intro u y v hu hv h
    rcases h with ⟨d, h1, h2⟩ | ⟨t, h1, h2, h3, h4⟩
    · have hrl : rV (U.set gone (keep : Int)) u < G.length := by rw [hr u hu]; split <;> first | exact hkl | exact w.rlt hu
      have hrr : rV U (rV (U.set gone (keep : Int)) u) = rV (U.set gone (keep : Int)) u := by rw [hr u hu]; split <;> first | exact hkr | exact w.idem hu
      have hne : rV (U.set gone (keep : Int)) u ≠ gone := by rw [hr u hu]; split <;> omega
      have hd := (w.ent _ _ _ hrl h1).2.1
      exact ⟨rV (U.set gone (keep : Int)) u, d.toNat, hrl, hd, by rw [hr _ hrl, hrr, if_neg hne], h2, .inl ⟨d, by rw [hrr]; exact h1, rfl⟩⟩
    · rcases List.mem_append.1 h1 with h1 | h1
      · obtain ⟨t1, t2, _⟩ := hW t (by simp [h1])
        exact ⟨t.1, t.2.2, t1, t2, h2, h4, .inr ⟨t, by simp [h1], rfl, h3, rfl⟩⟩
      · obtain ⟨z, d, hd, rfl | rfl⟩ := gmem t h1
        · simp only at h2 h3 h4
          subst h3
          have hdl := (w.ent _ _ _ hgl hd).2.1
          exact ⟨gone, d.toNat, hgl, hdl, by rw [hgk, ← h2, hkk], h4, .inl ⟨d, by rw [hgr]; exact hd, rfl⟩⟩
        · simp only at h2 h3 h4
          subst h3
          have hdl := (w.ent _ _ _ hgl hd).2.1
          exact ⟨d.toNat, gone, hdl, hgl, h2, by rw [hgk, ← h4, hkk], hs _ _ _ hgl hdl (.inl ⟨d, by rw [hgr]; exact hd, rfl⟩)⟩
  refine ⟨rfl, same, keepP, fun u y v hu hv h => ?_, fun X st κ hC => ?_⟩
  · obtain ⟨u0, v0, a1, a2, a3, a4, a5⟩ := back u y v hu hv h
    exact (keepP _ _ _ a2 a1 (hs _ _ _ a1 a2 a5)).mv a4 a3
  · have e1 : st (κ a) x = some (κ b) := hC.2 a x b ha hb (.inr ⟨(a, x, b), by simp, rfl, rfl, rfl⟩)
    have e2 : st (κ a) x = some (κ c.toNat) := hC.2 a x c.toNat ha hcl (.inl ⟨c, hc, rfl⟩)
    have e4 : κ b = κ c.toNat := Option.some.inj (e1.symm.trans e2)
    have e3 : κ keep = κ gone := by
      rcases hkg with ⟨h1, h2⟩ | ⟨h1, h2⟩
      · rw [h1, h2, hC.1 b hb, hC.1 _ hcl, e4]
      · rw [h1, h2, hC.1 b hb, hC.1 _ hcl, e4]
    have c1 : ∀ u, u < G.length → κ (rV (U.set gone (keep : Int)) u) = κ u := fun u hu => by
      rw [hr u hu]
      split
      · rename_i e; rw [e3, ← e]; exact hC.1 u hu
      · exact hC.1 u hu
    refine ⟨c1, fun u y v hu hv h => ?_⟩
    obtain ⟨u0, v0, a1, a2, a3, a4, a5⟩ := back u y v hu hv h
    have f1 : κ u0 = κ u := by rw [← c1 u0 a1, a3, c1 u hu]
    have f2 : κ v0 = κ v := by rw [← c1 v0 a2, a4, c1 v hv]
    rw [← f1, ← f2]
    exact hC.2 _ _ _ a1 a2 a5
theorem OkW.join {G : List Mp} {U : List Int} {W : List E3} (w : WG G U) (hW : OkW G.length W) {keep gone : Nat} (hkl : keep < G.length) (hgl : gone < G.length) {L : List Int} (hL : ∀ y ∈ L, (gm G gone y).isSome = true) : OkW G.length (W ++ goneW (gm G gone) keep L) := fun t ht => by
  rcases List.mem_append.1 ht with ht | ht
  · exact hW t ht
  · obtain ⟨y, hy, h⟩ := List.mem_flatMap.1 ht
    obtain ⟨d, hd⟩ := Option.isSome_iff_exists.1 (hL y hy)
    obtain ⟨g1, g2, g3, g4, g5⟩ := w.ent _ _ _ hgl hd
    rw [hd] at h
    simp only [Option.getD_some, List.mem_cons, List.not_mem_nil, or_false] at h
    rcases h with rfl | rfl
    · exact ⟨hkl, g2, g3, g4, g5⟩
    · exact ⟨g2, hkl, by simp only; omega, by simp only; omega, by simp only; omega⟩
def nr (U : List Int) (k : Nat) : Nat := (List.range k).countP fun v => rV U v == v
theorem nr_le (U : List Int) (k : Nat) : nr U k ≤ k := by
  have := List.countP_le_length (p := fun v => rV U v == v) (l := List.range k)
  simpa [nr] using this
theorem nr_same {U U' : List Int} {k : Nat} (h : ∀ u, u < k → rV U' u = rV U u) : nr U' k = nr U k := by
  unfold nr
  refine List.countP_congr fun x hx => ?_
  rw [h x (List.mem_range.1 hx)]
theorem countP_lt {p q : Nat → Bool} : ∀ (l : List Nat) (y : Nat), y ∈ l → p y = true → q y = false → (∀ x ∈ l, q x = true → p x = true) → l.countP q < l.countP p
  | [], y, h, _, _, _ => by simp at h
  | x :: r, y, h, hp, hq, hi => by
    have hle : ∀ (l : List Nat), (∀ x ∈ l, q x = true → p x = true) → l.countP q ≤ l.countP p := fun l h => List.countP_mono_left h
    rw [List.countP_cons, List.countP_cons]
    rcases List.mem_cons.1 h with rfl | h
    · have := hle r fun x hx => hi x (by simp [hx])
      simp [hp, hq]; omega
    · have := countP_lt r y h hp hq fun x hx => hi x (by simp [hx])
      have h2 := hi x (by simp)
      by_cases e : q x = true
      · simp [e, h2 e]; exact this
      · simp [e]; split <;> omega
theorem nr_join {U U' : List Int} {k keep gone : Nat} (hk : keep < gone) (hg : gone < k) (hgr : rV U gone = gone) (hkr : rV U keep = keep) (hr : ∀ u, u < k → rV U' u = if rV U u = gone then keep else rV U u) : nr U' k < nr U k := by
  refine countP_lt _ gone (List.mem_range.2 hg) (by simpa using hgr) ?_ fun x hx h => ?_
  · rw [hr gone hg, if_pos hgr]; simp; omega
  · have hx := List.mem_range.1 hx
    rw [hr x hx] at h
    simp only [beq_iff_eq] at h ⊢
    split at h
    · rename_i e
      subst h
      omega
    · exact h
theorem nodup_len : ∀ (n : Nat) (l : List Nat), l.Nodup → (∀ x ∈ l, x < n) → l.length ≤ n
  | 0, [], _, _ => Nat.le_refl _
  | 0, x :: r, _, h => absurd (h x (by simp)) (Nat.not_lt_zero _)
  | n + 1, l, hn, h => by
    by_cases hm : n ∈ l
    · have := nodup_len n (l.erase n) (hn.erase n) fun x hx => by
        have h1 := h x (List.mem_of_mem_erase hx)
        have h2 : x ≠ n := fun e => by subst e; exact (List.Nodup.mem_erase_iff hn).1 hx |>.1 rfl
        omega
      rw [List.length_erase_of_mem hm] at this
      omega
    · have := nodup_len n l hn fun x hx => by
        have h1 := h x hx
        have h2 : x ≠ n := fun e => hm (e ▸ hx)
        omega
      omega
end Go.Proofs.Ytneglephfhiamaa

namespace Go.Pv
open Go.RowKit
def draw2OKs (ops : Array Oper) (xs : List I2) : Bool :=
  (List.range ops.size).all fun j =>
    ((opAt ops j).after.toList.all fun e => !Region.binds .any e || e.on < j) &&
    ((List.range j).all fun i => ((anc ops).getD j 0).testBit i || apart2 ops (fun i => xs.getD i default) i j) &&
    (match (xs.getD j default).c.mk with
     | some κ => (List.range ops.size).all fun i => i == j || ((anc ops).getD i 0).testBit j || (nrA κ (xs.getD i default).av && ((xs.getD i default).pu || (xs.getD i default).blks.all (blkNr κ)))
     | none => true) && (xs.getD j default).na
theorem draw2_sw {ops : Array Oper} {xs : List I2} (h : draw2OKs ops xs = true) : draw2OK ops xs = true := by
  have : draw2OK ops xs = draw2OKs ops xs := by
    unfold draw2OK draw2OKs
    simp only [Bool.or_comm]
    rfl
  rw [this]; exact h
def wl (W : List (Nat × Int × Nat)) : List PV := W.map fun t => .agg [.int .i64 t.1, .int .i64 t.2.1, .int .i64 t.2.2]
def fw (W : List (Nat × Int × Nat)) : List AV := opl (flat (wl W))
theorem flat_app (a b : List PV) : flat (a ++ b) = flat a ++ flat b := by
  induction a with
  | nil => rfl
  | cons x r ih => simp only [List.cons_append, flat, ih, List.append_assoc]
theorem fw_app (W V : List (Nat × Int × Nat)) : fw (W ++ V) = fw W ++ fw V := by
  simp only [fw, wl, List.map_append, flat_app, opl, List.map_append]
theorem fw_len (W : List (Nat × Int × Nat)) : (fw W).length = W.length * 3 := by
  induction W with
  | nil => rfl
  | cons t r ih =>
    have := fw_app [t] r
    rw [List.singleton_append] at this
    rw [this, List.length_append, ih, List.length_cons]
    have : (fw [t]).length = 3 := rfl
    omega
theorem fw_last (W : List (Nat × Int × Nat)) (a b : Nat) (x : Int) : ((fw (W ++ [(a, x, b)])).drop (W.length * 3)).take 3 = [.p (.int .i64 a), .p (.int .i64 x), .p (.int .i64 b)] := by
  rw [fw_app, ← fw_len, List.drop_append_of_le_length (Nat.le_refl _), List.drop_length, List.nil_append]; rfl
theorem fw_take (W V : List (Nat × Int × Nat)) : (fw (W ++ V)).take (W.length * 3) = fw W := by
  rw [fw_app, ← fw_len, List.take_append_of_le_length (Nat.le_refl _), List.take_length]
theorem fw_ok (W : List (Nat × Int × Nat)) : (fw W).all cellOk = true := by
  induction W with
  | nil => rfl
  | cons t r ih =>
    have := fw_app [t] r
    rw [List.singleton_append] at this
    rw [this, List.all_append, ih]; rfl
theorem fw_sc (L : Nat) (W : List (Nat × Int × Nat)) : (fw W).all (scA L) = true := opl_sc _ _
theorem fw_ren (π : List Nat) (W : List (Nat × Int × Nat)) : (fw W).map (Go.Pv.ren π) = fw W := opl_ren _ _
theorem fw_dropt {W : List (Nat × Int × Nat)} {n : Nat} (h : W.length = n) : ((fw W).drop 0).take (n * 3) = fw W := by
  rw [List.drop_zero, List.take_of_length_le (by rw [fw_len, h]; exact Nat.le_refl _)]
end Go.Pv
namespace Go.Proofs.Ytneglephfhiamaa
open Go.Pv
section
variable {G : List Mp} {U : List Int}
theorem WG.of (w : WG G U) {v : Nat} (hv : v < G.length) : WG G (ofU U v) := w.up (ofU_len _ _) (ofU_fo w.fo (by rw [w.len]; exact hv))
end
end Go.Proofs.Ytneglephfhiamaa

namespace Go.Pv
open Go.RowKit Go.Proofs.Ytneglephfhiamaa
theorem runs_cut {P : Program} {draw : Bool} {all : Array Oper} {l : List Oper} {K : St → Prop} {s : St} (h : ∀ K' : St → Prop, (∀ s', K s' → K' s') → Runs P draw all l K' s) : Runs P draw all l K s := h K fun _ h => h
theorem ren1_pre {π : List Nat} {L : Nat} (hπ : ∀ i, i < L → π.getD i 0 = i) {x : AV} (h : sc1 L x = true) : ren1 π x = x := by
  cases x <;> simp only [ren1, sc1, decide_eq_true_eq] at h ⊢
  all_goals rw [hπ _ h]
theorem ren_pre {π : List Nat} {L : Nat} (hπ : ∀ i, i < L → π.getD i 0 = i) {x : AV} (h : scA L x = true) : Go.Pv.ren π x = x := by
  have hm : ∀ l : List AV, l.all (sc1 L) = true → l.map (ren1 π) = l := fun l hl => by
    have := List.map_congr_left (f := ren1 π) (g := id) fun x hx => ren1_pre hπ ((List.all_eq_true.1 hl) x hx)
    rw [this, List.map_id]
  cases x with
  | agg l => simp only [Go.Pv.ren]; rw [hm l h]
  | tup l => simp only [Go.Pv.ren]; rw [hm l h]
  | cl f l => simp only [Go.Pv.ren]; rw [hm l h]
  | yv k l vs =>
    simp only [scA, Bool.and_eq_true, decide_eq_true_eq] at h
    simp only [Go.Pv.ren]; rw [hm l h.2, hπ _ h.1]
  | _ => simp only [Go.Pv.ren]; exact ren1_pre hπ (by simpa only [scA] using h)
theorem sc1_mn {L M : Nat} (h : L ≤ M) {x : AV} (hx : sc1 L x = true) : sc1 M x = true := by
  cases x <;> simp only [sc1, decide_eq_true_eq, reduceCtorEq, Bool.false_eq_true] at hx ⊢ <;> omega
theorem scA_mn {L M : Nat} (h : L ≤ M) {x : AV} (hx : scA L x = true) : scA M x = true := by
  have hm : ∀ l : List AV, l.all (sc1 L) = true → l.all (sc1 M) = true := fun l hl => List.all_eq_true.2 fun y hy => sc1_mn h ((List.all_eq_true.1 hl) y hy)
  cases x with
  | agg l => exact hm l hx
  | tup l => exact hm l hx
  | cl f l => exact hm l hx
  | yv k l vs =>
    simp only [scA, Bool.and_eq_true, decide_eq_true_eq] at hx ⊢
    exact ⟨by omega, hm l hx.2⟩
  | _ => simp only [scA] at hx ⊢; exact sc1_mn h hx
theorem leH_stay {π : List Nat} {H B : Heap} {a L : Nat} (hπ : ∀ i, i < L → π.getD i 0 = i) (hl : L ≤ π.length) (hB : ∀ b ∈ B, hsc L b = true) (h : ∀ i, i < B.length → hget H (a + i) = hget B i) : LeH π H (List.range' a B.length) B := by
  refine leH_seg h fun b hb => ?_
  have hs := hB b hb
  cases b with
  | own c =>
    have : hget [Blk.own c] 0 = .own c := rfl
    simp only [LeB, this]
    have e := List.map_congr_left (f := Go.Pv.ren π) (g := id) fun x hx => ren_pre hπ ((List.all_eq_true.1 hs) x hx)
    rw [e, List.map_id, List.take_of_length_le (Nat.le_refl _)]
    exact ⟨rfl, List.all_eq_true.2 fun x hx => scA_mn hl ((List.all_eq_true.1 hs) x hx)⟩
  | anc i j =>
    simp only [hsc, decide_eq_true_eq] at hs
    have : hget [Blk.anc i j] 0 = .anc i j := rfl
    simp only [LeB, this, hπ j hs]
    exact ⟨trivial, by omega⟩
  | dead => trivial
  | _ => rfl
theorem le_behind {S s : St} {B : Heap} {N q : Nat} {c d : List AV} (hn : S.n = s.n) (hN : B.length = N) (hSH : S.H = B ++ [.own c]) (hB : ∀ b ∈ B, hsc (N + 1) b = true) (hq : N ≤ q) (hBq : ∀ b ∈ B, hsc N b = true) (h0 : ∀ i, i < N → hget s.H i = hget B i)
    (hd : hget s.H q = .own d) (hc : c.map (Go.Pv.ren (List.range N ++ [q])) = d.take c.length) (hcs : c.all (scA (N + 1)) = true) (hsl : LeS (List.range N ++ [q]) S.sl s) : Le (List.range N ++ [q]) S s := by
  have hπ : ∀ i, i < N → (List.range N ++ [q]).getD i 0 = i := fun i hi => by
    rw [List.getD_eq_getElem?_getD, List.getElem?_append_left (by simpa using hi)]
    simp [List.getElem?_range hi]
  have hpl : (List.range N ++ [q]).length = N + 1 := by simp
  refine ⟨hn, ?_, ?_, hsl⟩
  · rw [List.nodup_append]
    refine ⟨List.nodup_range, by simp, fun x hx y hy => ?_⟩
    have := List.mem_range.1 hx
    rw [List.mem_singleton] at hy
    omega
  · rw [hSH]
    refine leH_app ?_ ⟨?_, trivial⟩
    · have := leH_stay (π := List.range N ++ [q]) (H := s.H) (B := B) (a := 0) (L := N) hπ (by omega) hBq (fun i hi => by rw [Nat.zero_add]; exact h0 i (by omega))
      rwa [hN, ← List.range_eq_range'] at this
    · simp only [LeB, hd, hpl]
      exact ⟨hc, hcs⟩
theorem le_stay {S s : St} {B : Heap} {N : Nat} (hn : S.n = s.n) (hN : B.length = N) (hSH : S.H = B) (hB : ∀ b ∈ B, hsc N b = true) (h0 : ∀ i, i < N → hget s.H i = hget B i) (hsl : LeS (List.range N) S.sl s) : Le (List.range N) S s := by
  refine ⟨hn, List.nodup_range, ?_, hsl⟩
  rw [hSH]
  have := leH_stay (π := List.range N) (H := s.H) (B := B) (a := 0) (L := N) (fun i hi => by simp [List.getElem?_range hi]) (by simp) hB (fun i hi => by rw [Nat.zero_add]; exact h0 i (by omega))
  rwa [hN, ← List.range_eq_range'] at this
end Go.Pv
namespace Go.Proofs.Ytneglephfhiamaa
open Go.Pv
end Go.Proofs.Ytneglephfhiamaa

namespace Go.Proofs.Ytneglephfhiamaa
open Go.Pv
section
variable {G : List Mp} {U : List Int}
end
end Go.Proofs.Ytneglephfhiamaa

namespace Go.Proofs.Ytneglephfhiamaa
open Go.Pv
def Pth (G : List Mp) (U : List Int) : Nat → List Int → Nat → Prop
  | u, [], v => rV U u = rV U v
  | u, x :: w, v => ∃ m, m < G.length ∧ Ed G U u x m ∧ Pth G U m w v
theorem Ed.mv {G : List Mp} {U : List Int} {u v u2 v2 : Nat} {x : Int} (h : Ed G U u x v) (h1 : rV U u = rV U u2) (h2 : rV U v = rV U v2) : Ed G U u2 x v2 := by
  obtain ⟨d, a, b⟩ := h
  exact ⟨d, by rw [← h1]; exact a, b.trans h2⟩
theorem pe_nil {G : List Mp} {U : List Int} {u v : Nat} {x : Int} : Pe G U [] u x v ↔ Ed G U u x v := by
  unfold Pe; simp
theorem Pth.mv {G : List Mp} {U : List Int} : ∀ {w : List Int} {u v u2 v2 : Nat}, Pth G U u w v → rV U u = rV U u2 → rV U v = rV U v2 → Pth G U u2 w v2
  | [], _, _, _, _, h, h1, h2 => by rw [Pth] at h ⊢; rw [← h1, ← h2]; exact h
  | x :: w, _, _, _, _, ⟨m, a, b, c⟩, h1, h2 => ⟨m, a, b.mv h1 rfl, c.mv rfl h2⟩
theorem Pth.snoc {G : List Mp} {U : List Int} {x : Int} {m v : Nat} (hm : m < G.length) (hv : v < G.length) (he : Ed G U m x v) : ∀ {w : List Int} {u : Nat}, Pth G U u w m → Pth G U u (w ++ [x]) v
  | [], u, h => ⟨v, hv, he.mv h.symm rfl, rfl⟩
  | y :: w, u, ⟨n, a, b, c⟩ => ⟨n, a, b, Pth.snoc hm hv he c⟩
theorem Nxt.ed {G G' : List Mp} {U U' : List Int} {W : List E3} (h : Nxt G U W G' U' []) {u v : Nat} {x : Int} (hu : u < G.length) (hv : v < G.length) (he : Ed G U u x v) : Ed G' U' u x v := pe_nil.1 (h.keep u x v hu hv (.inl he))
theorem Pth.nxt {G G' : List Mp} {U U' : List Int} {W : List E3} (h : Nxt G U W G' U' []) : ∀ {w : List Int} {u v : Nat}, u < G.length → v < G.length → Pth G U u w v → Pth G' U' u w v
  | [], u, v, hu, hv, hp => h.same u v hu hv hp
  | x :: w, u, v, hu, hv, ⟨m, a, b, c⟩ => ⟨m, by rw [h.len]; exact a, h.ed hu a b, Pth.nxt h a hv c⟩
theorem gm_snoc {G : List Mp} {i : Nat} {f : Mp} (h : i < G.length) : gm (G ++ [f]) i = gm G i := by
  unfold gm
  rw [List.getD_eq_getElem?_getD, List.getElem?_append_left h, ← List.getD_eq_getElem?_getD]
theorem gm_new {G : List Mp} {f : Mp} : gm (G ++ [f]) G.length = f := by
  unfold gm; simp
def nul : Mp := fun _ => none
theorem WG.place {G : List Mp} {U : List Int} (w : WG G U) : WG (G ++ [nul]) (U ++ [(U.length : Int)]) := by
  refine ⟨by simp [w.len], w.fo.snoc, fun v x d hv h => ?_⟩
  rw [List.length_append, List.length_singleton] at hv ⊢
  by_cases e : v < G.length
  · rw [gm_snoc e] at h
    obtain ⟨a, b, c⟩ := w.ent v x d e h
    exact ⟨a, by omega, c⟩
  · obtain rfl : v = G.length := by omega
    rw [gm_new] at h; cases h
theorem WG.placeR {G : List Mp} {U : List Int} (w : WG G U) {u : Nat} (h : u < G.length) : rV (U ++ [(U.length : Int)]) u = rV U u := rV_snoc w.fo u (by rw [w.len]; exact h)
theorem WG.placeN {G : List Mp} {U : List Int} (w : WG G U) : rV (U ++ [(U.length : Int)]) G.length = G.length := by
  rw [← w.len]; exact rV_new U
theorem ed_place {G : List Mp} {U : List Int} (w : WG G U) {u v : Nat} {x : Int} (hu : u < G.length + 1) (hv : v < G.length + 1) : Ed (G ++ [nul]) (U ++ [(U.length : Int)]) u x v ↔ u < G.length ∧ v < G.length ∧ Ed G U u x v := by
  constructor
  · rintro ⟨d, a, b⟩
    by_cases e : u < G.length
    · rw [w.placeR e, gm_snoc (w.rlt e)] at a
      have hd := (w.ent _ _ _ (w.rlt e) a).2.1
      rw [w.placeR hd] at b
      by_cases e2 : v < G.length
      · rw [w.placeR e2] at b
        exact ⟨e, e2, d, a, b⟩
      · obtain rfl : v = G.length := by omega
        rw [w.placeN] at b
        have := w.rlt hd
        omega
    · obtain rfl : u = G.length := by omega
      rw [w.placeN, gm_new] at a; cases a
  · rintro ⟨e, e2, d, a, b⟩
    have hd := (w.ent _ _ _ (w.rlt e) a).2.1
    exact ⟨d, by rw [w.placeR e, gm_snoc (w.rlt e)]; exact a, by rw [w.placeR hd, w.placeR e2]; exact b⟩
theorem sym_place {G : List Mp} {U : List Int} (w : WG G U) (h : SymW G U []) : SymW (G ++ [nul]) (U ++ [(U.length : Int)]) [] := fun u x v hu hv e => by
  rw [List.length_append, List.length_singleton] at hu hv
  rw [pe_nil, ed_place w hu hv] at e
  rw [pe_nil, ed_place w hv hu]
  exact ⟨e.2.1, e.1, pe_nil.1 (h u x v e.1 e.2.1 (pe_nil.2 e.2.2))⟩
theorem Pth.place {G : List Mp} {U : List Int} (w : WG G U) : ∀ {l : List Int} {u v : Nat}, u < G.length → v < G.length → Pth G U u l v → Pth (G ++ [nul]) (U ++ [(U.length : Int)]) u l v
  | [], u, v, hu, hv, hp => by rw [Pth] at hp ⊢; rw [w.placeR hu, w.placeR hv]; exact hp
  | x :: l, u, v, hu, hv, ⟨m, a, b, c⟩ => ⟨m, by simp; omega, (ed_place w (by omega) (by omega)).2 ⟨hu, a, b⟩, Pth.place w a hv c⟩
theorem cmp_place {X : Type} {step : X → Int → Option X} {κ : Nat → X} {G : List Mp} {U : List Int} (w : WG G U) (h : Cmp step κ G U []) (c : X) : Cmp step (fun u => if u = G.length then c else κ u) (G ++ [nul]) (U ++ [(U.length : Int)]) [] := by
  refine ⟨fun u hu => ?_, fun u x v hu hv e => ?_⟩
  · rw [List.length_append, List.length_singleton] at hu
    by_cases e : u < G.length
    · have := w.rlt e
      rw [w.placeR e]
      show (if rV U u = G.length then c else κ (rV U u)) = if u = G.length then c else κ u
      rw [if_neg (by omega), if_neg (by omega)]; exact h.1 u e
    · obtain rfl : u = G.length := by omega
      rw [w.placeN]
  · rw [List.length_append, List.length_singleton] at hu hv
    rw [pe_nil, ed_place w hu hv] at e
    simp only
    rw [if_neg (by omega), if_neg (by omega)]
    exact h.2 u x v e.1 e.2.1 (pe_nil.2 e.2.2)
theorem sym_add {G : List Mp} {U : List Int} (h : SymW G U []) (a : Nat) (x : Int) (b : Nat) : SymW G U [(a, x, b), (b, -x, a)] := fun u y v hu hv e => by
  rcases e with e | ⟨t, ht, h1, h2, h3⟩
  · exact .inl (pe_nil.1 (h u y v hu hv (pe_nil.2 e)))
  · simp only [List.mem_cons, List.not_mem_nil, or_false] at ht
    rcases ht with rfl | rfl
    · simp only at h1 h2 h3
      exact .inr ⟨(b, -x, a), by simp, h3, by rw [← h2], h1⟩
    · simp only at h1 h2 h3
      exact .inr ⟨(a, x, b), by simp, h3, by rw [← h2]; simp, h1⟩
theorem cmp_add {X : Type} {step : X → Int → Option X} {κ : Nat → X} {G : List Mp} {U : List Int} {a b : Nat} {x : Int} (ha : a < G.length) (hb : b < G.length) (h : Cmp step κ G U []) (h1 : step (κ a) x = some (κ b)) (h2 : step (κ b) (-x) = some (κ a)) : Cmp step κ G U [(a, x, b), (b, -x, a)] := by
  refine ⟨h.1, fun u y v hu hv e => ?_⟩
  have key : ∀ {s t : Nat}, s < G.length → t < G.length → rV U s = rV U t → κ s = κ t := fun {s t} hs ht e => by rw [← h.1 s hs, ← h.1 t ht, e]
  rcases e with e | ⟨t, ht, e1, e2, e3⟩
  · exact h.2 u y v hu hv (pe_nil.2 e)
  · simp only [List.mem_cons, List.not_mem_nil, or_false] at ht
    rcases ht with rfl | rfl
    · simp only at e1 e2 e3
      rw [← key ha hu e1, ← key hb hv e3, ← e2]; exact h1
    · simp only at e1 e2 e3
      rw [← key hb hu e1, ← key ha hv e3, ← e2]; exact h2
def runW {X : Type} (step : X → Int → Option X) : X → List Int → Option X
  | c, [] => some c
  | c, x :: w => match step c x with | some d => runW step d w | none => none
theorem runW_app {X : Type} (step : X → Int → Option X) : ∀ (w w' : List Int) (c : X), runW step c (w ++ w') = (runW step c w).bind fun d => runW step d w'
  | [], w', c => rfl
  | x :: w, w', c => by
    simp only [List.cons_append, runW]
    cases step c x with
    | none => rfl
    | some d => exact runW_app step w w' d
def Uni (G : List Mp) (U : List Int) (L : List (List Int)) (v : Nat) (p : List Int) : Prop :=
  ∀ (X : Type) (step : X → Int → Option X) (x0 : X), (∀ c d x, x ≠ 0 → step c x = some d → step d (-x) = some c) → (∀ w ∈ L, runW step x0 w = some x0) → ∃ κ : Nat → X, κ 0 = x0 ∧ Cmp step κ G U [] ∧ runW step x0 p = some (κ v)
structure FI (L : List (List Int)) (G : List Mp) (U : List Int) (done : List (List Int)) (v : Nat) (p : List Int) : Prop where
  wg : WG G U
  pos : 0 < G.length
  lt : v < G.length
  sym : SymW G U []
  cl : ∀ w ∈ done, Pth G U 0 w 0
  pth : Pth G U 0 p v
  con : ∀ u, u < G.length → ∃ w, Pth G U 0 w u
  uni : Uni G U L v p
theorem FI.put {L : List (List Int)} {G : List Mp} {U : List Int} {done : List (List Int)} {v : Nat} {p : List Int} (h : FI L G U done v p) {x : Int} (hx : x ≠ 0) {r : List Int} (hm : p ++ [x] ++ r ∈ L) {G' : List Mp} {U' : List Int} (hw : WG G' U')
    (hn : Nxt (G ++ [nul]) (U ++ [(U.length : Int)]) [(v, x, G.length), (G.length, -x, v)] G' U' []) : FI L G' U' done G.length (p ++ [x]) := by
  have hl : G'.length = G.length + 1 := by rw [hn.len, List.length_append, List.length_singleton]
  have h0 := h.pos
  have hv := h.lt
  have hlen : (G ++ [nul]).length = G.length + 1 := by simp
  have h2 : Ed G' U' v x G.length := pe_nil.1 (hn.keep v x G.length (by omega) (by omega) (.inr ⟨_, List.mem_cons_self, rfl, rfl, rfl⟩))
  refine ⟨hw, by omega, by omega, hn.sym, fun w hw => ?_, ?_, fun u hu => ?_, fun X step x0 hi hc => ?_⟩
  · exact Pth.nxt hn (by omega) (by omega) ((h.cl w hw).place h.wg h0 h0)
  · have h1 := Pth.nxt hn (by omega) (by omega) (h.pth.place h.wg h0 hv)
    exact h1.snoc (by omega) (by omega) h2
  · by_cases e : u < G.length
    · obtain ⟨q, hq⟩ := h.con u e
      exact ⟨q, Pth.nxt hn (by omega) (by omega) (hq.place h.wg h0 e)⟩
    · obtain rfl : u = G.length := by omega
      exact ⟨p ++ [x], (Pth.nxt hn (by omega) (by omega) (h.pth.place h.wg h0 hv)).snoc (by omega) (by omega) h2⟩
  · obtain ⟨κ, k1, k2, k3⟩ := h.uni X step x0 hi hc
    have hrun := hc _ hm
    rw [runW_app, runW_app, k3] at hrun
    simp only [Option.bind_some, runW] at hrun
    obtain ⟨y, hy⟩ : ∃ y, step (κ v) x = some y := by
      cases e : step (κ v) x with
      | none => rw [e] at hrun; cases hrun
      | some y => exact ⟨y, rfl⟩
    refine ⟨fun u => if u = G.length then y else κ u, by simp only; rw [if_neg (by omega)]; exact k1, hn.cmp X step _ (cmp_add (by omega) (by omega) (cmp_place h.wg k2 _) ?_ ?_), ?_⟩
    · show step (if v = G.length then y else κ v) x = some (if G.length = G.length then y else κ G.length)
      rw [if_neg (by omega), if_pos rfl]; exact hy
    · show step (if G.length = G.length then y else κ G.length) (-x) = some (if v = G.length then y else κ v)
      rw [if_neg (show ¬ v = G.length by omega), if_pos rfl]; exact hi _ _ _ hx hy
    · show _ = some (if G.length = G.length then y else κ G.length)
      rw [if_pos rfl, runW_app, k3]
      simp only [Option.bind_some, runW, hy]
theorem FI.back {L : List (List Int)} {G : List Mp} {U : List Int} {done : List (List Int)} {v : Nat} {p : List Int} (h : FI L G U done v p) {x : Int} (hx : x ≠ 0) (hm : p ++ [x] ∈ L) {G' : List Mp} {U' : List Int} (hw : WG G' U')
    (hn : Nxt G U [(v, x, 0), (0, -x, v)] G' U' []) : FI L G' U' (done ++ [p ++ [x]]) 0 [] := by
  have hl := hn.len
  have h0 := h.pos
  have hv := h.lt
  refine ⟨hw, by omega, by omega, hn.sym, fun w hw => ?_, rfl, fun u hu => (h.con u (by omega)).imp fun q hq => Pth.nxt hn h0 (by omega) hq, fun X step x0 hi hc => ?_⟩
  · rcases List.mem_append.1 hw with hw | hw
    · exact Pth.nxt hn h0 h0 (h.cl w hw)
    · rw [List.mem_singleton] at hw
      subst hw
      have h2 : Ed G' U' v x 0 := pe_nil.1 (hn.keep v x 0 hv h0 (.inr ⟨_, List.mem_cons_self, rfl, rfl, rfl⟩))
      exact (Pth.nxt hn h0 hv h.pth).snoc (by omega) (by omega) h2
  · obtain ⟨κ, k1, k2, k3⟩ := h.uni X step x0 hi hc
    have hx0 : step (κ v) x = some (κ 0) := by
      have := hc _ hm
      rw [runW_app, k3] at this
      simp only [Option.bind_some, runW] at this
      rw [k1]
      cases e : step (κ v) x with
      | none => rw [e] at this; cases this
      | some y => rw [e] at this; exact this
    exact ⟨κ, k1, hn.cmp X step _ (cmp_add hv h0 k2 hx0 (hi _ _ _ hx hx0)), by rw [← k1]; rfl⟩
theorem FI.nil {L : List (List Int)} {G : List Mp} {U : List Int} {done : List (List Int)} (h : FI L G U done 0 []) : FI L G U (done ++ [[]]) 0 [] :=
  ⟨h.wg, h.pos, h.lt, h.sym, fun w hw => by
    rcases List.mem_append.1 hw with hw | hw
    · exact h.cl w hw
    · rw [List.mem_singleton] at hw; subst hw; rfl, h.pth, h.con, h.uni⟩
end Go.Proofs.Ytneglephfhiamaa

namespace Go.Pv
open Go.RowKit Go.Proofs.Ytneglephfhiamaa
theorem putM_ot : ∀ (ks : List Nat) (bs H : Heap) (k : Nat), k ∉ ks → k < H.length → (putM H ks bs)[k]? = H[k]?
  | [], bs, H, k, _, hk => by simp only [putM]; rw [List.getElem?_append_left hk]
  | k0 :: ks, [], H, k, _, _ => rfl
  | k0 :: ks, b0 :: bs, H, k, hn, hk => by
    simp only [putM]
    rw [putM_ot ks bs _ k (fun h => hn (by simp [h])) (by rw [hset_length]; exact hk), hset_get, if_neg (fun h => hn (by simp [h.1]))]
theorem putM_at2 : ∀ (ks : List Nat) (bs H : Heap), ks.Nodup → (∀ k ∈ ks, k < H.length) → ks.length ≤ bs.length → ∀ (j : Nat) {b : Blk} {k : Nat}, bs[j]? = some b → (ks ++ List.range' H.length (bs.length - ks.length))[j]? = some k → (putM H ks bs)[k]? = some b
  | [], bs, H, _, _, _, j, b, k, h1, h2 => by
    have hj := (List.getElem?_eq_some_iff.1 h1).1
    simp only [List.nil_append, List.length_nil, Nat.sub_zero] at h2
    rw [List.getElem?_range' hj] at h2
    simp only [Option.some.injEq, Nat.one_mul] at h2
    subst h2
    simp only [putM]
    rw [List.getElem?_append_right (by omega), Nat.add_sub_cancel_left]; exact h1
  | k0 :: ks, [], H, _, _, hl, j, b, k, h1, h2 => by simp at hl
  | k0 :: ks, b0 :: bs, H, hnd, hk, hl, 0, b, k, h1, h2 => by
    simp at h1 h2
    subst h1 h2
    simp only [putM]
    rw [putM_ot ks bs _ k0 (List.nodup_cons.1 hnd).1 (by rw [hset_length]; exact hk k0 (by simp)), hset_get, if_pos ⟨rfl, hk k0 (by simp)⟩]
  | k0 :: ks, b0 :: bs, H, hnd, hk, hl, j + 1, b, k, h1, h2 => by
    simp only [putM]
    refine putM_at2 ks bs _ (List.nodup_cons.1 hnd).2 (fun k hk' => by rw [hset_length]; exact hk k (by simp [hk'])) (by simpa using hl) j (by simpa using h1) ?_
    rw [hset_length]
    simpa using h2
end Go.Pv
namespace Go.Proofs.Ytneglephfhiamaa
open Go.Pv
section
variable {G : List Mp} {U : List Int}
end
end Go.Proofs.Ytneglephfhiamaa

namespace Go.Proofs.Ytneglephfhiamaa
open Go.Pv
theorem tot_sn (L : List (List Int)) (w : List Int) : tot (L ++ [w]) = tot L + w.length := by simp [tot]
theorem tot_tk (L : List (List Int)) (i : Nat) : tot (L.take i) ≤ tot L := by
  have : tot L = tot (L.take i) + tot (L.drop i) := by
    unfold tot
    rw [← List.length_append, ← List.flatten_append, List.take_append_drop]
  omega
theorem take_snoc {α : Type} {L : List α} {i : Nat} {d : α} (h : i < L.length) : L.take (i + 1) = L.take i ++ [L.getD i d] := by
  rw [List.take_succ, List.getElem?_eq_getElem h, List.getD_eq_getElem?_getD, List.getElem?_eq_getElem h]; rfl
def Lt26 (w : List Int) : Prop := ∀ x ∈ w, x ≠ 0 ∧ -26 ≤ x ∧ x ≤ 26
end Go.Proofs.Ytneglephfhiamaa

namespace Go.Proofs.Ytneglephfhiamaa
open Go.Pv
section
variable {G : List Mp} {U : List Int}
end
end Go.Proofs.Ytneglephfhiamaa

namespace Go.Proofs.Ytneglephfhiamaa
open Go.Pv
def ckG : List (List Int) → Nat → Nat → Int × Int
  | [], _, _ => (0, 0)
  | w :: r, i, n => if (check w).1 ≠ 0 then ((check w).1, (i : Int)) else if 2000 < n + w.length then (2, (i : Int)) else ckG r (i + 1) (n + w.length)
def ckL (L : List (List Int)) : Int × Int := if 20 < L.length then (2, 0) else ckG L 0 0
theorem ffault_c (c at_ : Int) : FnC Try.prog 53 [.int .i64 c, .int .i64 at_] (fl (c, at_)) := by
  refine fnc_of tab_ok Try.func53 rfl (by kernel_rfl) (by rw [Try.ntmps53]; exact Nat.le_add_left 2 _) ?_; rw [Try.ntmps53]
  refine qm ?_
  refine hk_region fun K hK => runs_eval tab_ok ?_
  simp only [ev0, evA, evB, evP, fl, gp, tab, simprocAttr]
  refine fin_run ?_ (hK _ ?_) <;> clear hK <;> clear K
  · (first | exact trivial | omega | (simp only [In64] at *; omega) | (simp [In64] at *; omega) | (simp_all; done) | skip)
  refine qa (qm ?_)
  refine hk_region fun K hK => runs_eval tab_ok ?_
  simp only [ev0, evA, evB, evP, fl, gp, tab, simprocAttr]
  refine fin_run ?_ (hK _ ?_) <;> clear hK <;> clear K
  · (first | exact trivial | omega | (simp only [In64] at *; omega) | (simp [In64] at *; omega) | (simp_all; done) | skip)
  refine qa (qk ?_)
  simp only [Try.results53, enA, ev0, evA, evB, evP, fl, gp, tab, simprocAttr]
  all_goals ((first | exact rfl | exact ⟨rfl, rfl⟩ | exact ⟨rfl, rfl, rfl⟩ | exact ⟨trivial, rfl⟩ | exact ⟨Nat.le_refl _, rfl⟩ | trivial | (simp; done)))
set_option maxHeartbeats 4000000 in
theorem checkL_c (L : List (List Int)) (hl : L.length ≤ 1000000000) (hw : ∀ w ∈ L, w.length ≤ 1000000000) : FnC Try.prog 34 [.list (ll L)] (fl (ckL L)) := by
  refine fnc_of tab_ok Try.func34 rfl (by kernel_rfl) (by rw [Try.ntmps34]; exact Nat.le_add_left 1 _) ?_; rw [Try.ntmps34]
  refine qm ?_
  refine hk_region fun K hK => runs_eval tab_ok ?_
  simp only [ev0, evA, evB, evP, fl, gp, tab, simprocAttr]
  refine fin_run ?_ (hK _ ?_) <;> clear hK <;> clear K
  · (first | exact trivial | omega | (simp only [In64] at *; omega) | (simp [In64] at *; omega) | (simp_all; done) | skip)
  refine qa (qm (qm ?_))
  refine hk_region fun K hK => runs_eval tab_ok ?_
  simp only [ev0, evA, evB, evP, fl, gp, tab, simprocAttr, ll_length]
  refine fin_run trivial (hK _ ?_) <;> clear hK <;> clear K
  refine qa ?_
  refine hk_cond rfl (fun hC1 => ?_) (fun hC1 => ?_)
  · (try simp only [nhs] at hC1)
    have h20 : 20 < L.length := by omega
    refine qm ?_
    refine hk_region fun K hK => runs_eval tab_ok ?_
    simp only [ev0, evA, evB, evP, fl, gp, tab, simprocAttr]
    refine fin_stop trivial (runs_call (ffault_c 2 0) rfl rfl rfl (by simp only [dstOk, Nat.reduceLT]) (by repeat (first | exact trivial | constructor)) (runs_eval tab_ok ?_))
    simp only [ev0, evA, evB, evP, fl, gp, tab, simprocAttr]
    refine fin_run ?_ (hK _ ?_) <;> clear hK <;> clear K
    · (first | exact trivial | omega | (simp only [In64] at *; omega) | (simp [In64] at *; omega) | (simp_all; done) | skip)
    refine qa (qk (qb ?_))
    simp only [Try.results34, enA, ev0, evA, evB, evP, fl, gp, tab, simprocAttr]
    have e : ckL L = (2, 0) := by unfold ckL; rw [if_pos (by omega)]
    rw [e]
    exact ⟨rfl, rfl⟩
  · (try simp only [nhs] at hC1)
    have h20 : ¬ 20 < L.length := by omega
    refine qh (qa (qm ?_))
    refine hk_region fun K hK => runs_eval tab_ok ?_
    simp only [ev0, evA, evB, evP, fl, gp, tab, simprocAttr]
    refine fin_run trivial (hK _ ?_) <;> clear hK <;> clear K
    refine qa (qm (qm ?_))
    refine hk_region fun K hK => runs_eval tab_ok ?_
    simp only [ev0, evA, evB, evP, fl, gp, tab, simprocAttr, ll_length]
    refine fin_run trivial (hK _ ?_) <;> clear hK <;> clear K
    refine qa (ql ?_)
    refine hk_loop (ι := Nat × Nat) (fun q => ⟨37, [(2, .ptr 0 0), (3, .p (.int .i64 (q.2 : Nat))), (11, .p (.list (ll L))), (12, .p (.int .i64 L.length)), (13, .p (.int .i64 (q.1 : Nat)))], [.own [.p (.int .i64 0), .p (.int .i64 0)]]⟩) (fun q => q.1 ≤ L.length ∧ q.2 ≤ 2000 ∧ ckL L = ckG (L.drop q.1) q.1 q.2) (fun q => L.length - q.1) (0, 0) ⟨Nat.zero_le _, Nat.zero_le _, by unfold ckL; rw [if_neg h20]; rfl⟩ [0] (by simp only [leq, leA, ev0, evA, evB, evP, fl, gp, tab, simprocAttr] <;> trivial) fun q hq => ?_
    obtain ⟨i, n⟩ := q
    obtain ⟨q1, q2, q3⟩ := hq
    simp only at q1 q2 q3 ⊢
    refine qm ?_
    refine hk_region fun K hK => runs_eval tab_ok ?_
    simp only [ev0, evA, evB, evP, fl, gp, tab, simprocAttr]
    refine fin_run trivial (hK _ ?_) <;> clear hK <;> clear K
    refine qa (qm ?_)
    refine hk_cond rfl (fun hC2 => ?_) (fun hC2 => ?_)
    · (try simp only [nhs] at hC2)
      have hi : i < L.length := by omega
      have hdr : L.drop i = L.getD i [] :: L.drop (i + 1) := by
        rw [List.drop_eq_getElem_cons hi, List.getD_eq_getElem?_getD, List.getElem?_eq_getElem hi]; rfl
      obtain ⟨w, hwd⟩ : ∃ w, L.getD i [] = w := ⟨_, rfl⟩
      have hwl : w.length ≤ 1000000000 := hw w (by rw [← hwd, List.getD_eq_getElem?_getD, List.getElem?_eq_getElem hi]; exact List.getElem_mem hi)
      rw [hdr, hwd, ckG] at q3
      refine qh (qa (qm (ql (qm ?_))))
      refine hk_region fun K hK => runs_eval tab_ok ?_
      simp only [ev0, evA, evB, evP, fl, gp, tab, simprocAttr, ll_length, ll_get hi, hwd]
      refine fin_run ?_ (hK _ ?_) <;> clear hK <;> clear K
      · omega
      refine qa (qm (qm ?_))
      refine hk_region fun K hK => runs_eval tab_ok ?_
      simp only [ev0, evA, evB, evP, fl, gp, tab, simprocAttr]
      refine fin_stop trivial (runs_call (check_c w) rfl rfl rfl (by simp only [dstOk, Nat.reduceLT]) (by repeat (first | exact trivial | constructor)) (runs_eval tab_ok ?_))
      simp only [ev0, evA, evB, evP, fl, gp, tab, simprocAttr]
      refine fin_run ?_ (hK _ ?_) <;> clear hK <;> clear K
      · (first | exact trivial | omega | (simp only [In64] at *; omega) | (simp [In64] at *; omega) | (simp_all; done) | skip)
      refine qa (qm ?_)
      refine hk_region fun K hK => runs_eval tab_ok ?_
      simp only [ev0, evA, evB, evP, fl, gp, tab, simprocAttr]
      refine fin_run ?_ (hK _ ?_) <;> clear hK <;> clear K
      · (first | exact trivial | omega | (simp only [In64] at *; omega) | (simp [In64] at *; omega) | (simp_all; done) | skip)
      refine qa ?_
      refine hk_cond rfl (fun hC3 => ?_) (fun hC3 => ?_)
      · (try simp only [nhs] at hC3)
        have h0 : (check w).1 ≠ 0 := hC3
        rw [if_pos h0] at q3
        refine qm ?_
        refine hk_region fun K hK => runs_eval tab_ok ?_
        simp only [ev0, evA, evB, evP, fl, gp, tab, simprocAttr]
        refine fin_stop trivial (runs_call (ffault_c (check w).1 i) rfl rfl rfl (by simp only [dstOk, Nat.reduceLT]) (by repeat (first | exact trivial | constructor)) (runs_eval tab_ok ?_))
        simp only [ev0, evA, evB, evP, fl, gp, tab, simprocAttr]
        refine fin_run ?_ (hK _ ?_) <;> clear hK <;> clear K
        · (first | exact trivial | omega | (simp only [In64] at *; omega) | (simp [In64] at *; omega) | (simp_all; done) | skip)
        refine qa (qk (qb (qe (qb (qb (qe (qb ?_)))))))
        simp only [Try.results34, enA, ev0, evA, evB, evP, fl, gp, tab, simprocAttr]
        all_goals (rw [q3]; exact ⟨rfl, rfl⟩)
      · (try simp only [nhs] at hC3)
        have h0 : ¬ (check w).1 ≠ 0 := fun h => h hC3
        rw [if_neg h0] at q3
        refine qh (qa (qm ?_))
        refine hk_region fun K hK => runs_eval tab_ok ?_
        simp only [ev0, evA, evB, evP, fl, gp, tab, simprocAttr, il_length]
        refine fin_run ?_ (hK _ ?_) <;> clear hK <;> clear K
        · (first | exact trivial | omega | (simp only [In64] at *; omega) | (simp [In64] at *; omega) | (simp_all; done) | skip)
        refine qa (qm ?_)
        refine hk_region fun K hK => runs_eval tab_ok ?_
        simp only [ev0, evA, evB, evP, fl, gp, tab, simprocAttr]
        refine fin_run trivial (hK _ ?_) <;> clear hK <;> clear K
        refine qa ?_
        refine hk_cond rfl (fun hC4 => ?_) (fun hC4 => ?_)
        · (try simp only [nhs] at hC4)
          have h1 : 2000 < n + w.length := by omega
          rw [if_pos h1] at q3
          refine qm ?_
          refine hk_region fun K hK => runs_eval tab_ok ?_
          simp only [ev0, evA, evB, evP, fl, gp, tab, simprocAttr]
          refine fin_stop trivial (runs_call (ffault_c 2 i) rfl rfl rfl (by simp only [dstOk, Nat.reduceLT]) (by repeat (first | exact trivial | constructor)) (runs_eval tab_ok ?_))
          simp only [ev0, evA, evB, evP, fl, gp, tab, simprocAttr]
          refine fin_run ?_ (hK _ ?_) <;> clear hK <;> clear K
          · (first | exact trivial | omega | (simp only [In64] at *; omega) | (simp [In64] at *; omega) | (simp_all; done) | skip)
          refine qa (qk (qe (qb (qb (qe (qb ?_))))))
          simp only [Try.results34, enA, ev0, evA, evB, evP, fl, gp, tab, simprocAttr]
          all_goals (rw [q3]; exact ⟨rfl, rfl⟩)
        · (try simp only [nhs] at hC4)
          have h1 : ¬ 2000 < n + w.length := by omega
          rw [if_neg h1] at q3
          refine qh (qd (qa ?_))
          refine hk_region fun K hK => runs_eval tab_ok ?_
          simp only [ev0, evA, evB, evP, fl, gp, tab, simprocAttr]
          refine fin_run ?_ (hK _ ?_) <;> clear hK <;> clear K
          · (first | exact trivial | omega | (simp only [In64] at *; omega) | (simp [In64] at *; omega) | (simp_all; done) | skip)
          refine qa ?_
          refine ⟨(i + 1, n + w.length), [0], ⟨by simp only; omega, by simp only; omega, q3⟩, by simp only; omega, ?_⟩
          simp only [leq, leA, ev0, evA, evB, evP, fl, gp, tab, simprocAttr] <;> first | trivial | trace_state
    · (try simp only [nhs] at hC2)
      refine qj (qc (qc (qf (qa (qm ?_)))))
      refine hk_region fun K hK => runs_eval tab_ok ?_
      simp only [ev0, evA, evB, evP, fl, gp, tab, simprocAttr]
      refine fin_run ?_ (hK _ ?_) <;> clear hK <;> clear K
      · (first | exact trivial | omega | (simp only [In64] at *; omega) | (simp [In64] at *; omega) | (simp_all; done) | skip)
      refine qa (qk ?_)
      simp only [Try.results34, enA, ev0, evA, evB, evP, fl, gp, tab, simprocAttr]
      have hie : i = L.length := by omega
      rw [hie, List.drop_length, ckG] at q3
      rw [q3]
      exact ⟨rfl, rfl⟩
end Go.Proofs.Ytneglephfhiamaa

namespace Go.Proofs.Ytneglephfhiamaa
open Go.Pv
set_option maxHeartbeats 4000000 in
theorem someWords_c (L : List (List Int)) (hl : L.length ≤ 1000000000) (hw : ∀ w ∈ L, w.length ≤ 1000000000) : FnC Try.prog 18 [.list (ll L)] (fl (ckL L)) := by
  refine fnc_of tab_ok Try.func18 rfl (by kernel_rfl) (by rw [Try.ntmps18]; exact Nat.le_add_left 1 _) ?_; rw [Try.ntmps18]
  refine qm ?_
  refine hk_region fun K hK => runs_eval tab_ok ?_
  simp only [ev0, evA, evB, evP, fl, gp, tab, simprocAttr]
  refine fin_run ?_ (hK _ ?_) <;> clear hK <;> clear K
  · (first | exact trivial | omega | (simp only [In64] at *; omega) | (simp [In64] at *; omega) | (simp_all; done) | skip)
  refine qa (qm (qm ?_))
  refine hk_region fun K hK => runs_eval tab_ok ?_
  simp only [ev0, evA, evB, evP, fl, gp, tab, simprocAttr, ll_length]
  refine fin_run trivial (hK _ ?_) <;> clear hK <;> clear K
  refine qa ?_
  refine hk_cond rfl (fun hC1 => ?_) (fun hC1 => ?_)
  · (try simp only [nhs] at hC1)
    have h20 : 20 < L.length := by omega
    refine qm ?_
    refine hk_region fun K hK => runs_eval tab_ok ?_
    simp only [ev0, evA, evB, evP, fl, gp, tab, simprocAttr]
    refine fin_stop trivial (runs_call (f_c 2 0) rfl rfl rfl (by simp only [dstOk, Nat.reduceLT]) (by repeat (first | exact trivial | constructor)) (runs_eval tab_ok ?_))
    simp only [ev0, evA, evB, evP, fl, gp, tab, simprocAttr]
    refine fin_run ?_ (hK _ ?_) <;> clear hK <;> clear K
    · (first | exact trivial | omega | (simp only [In64] at *; omega) | (simp [In64] at *; omega) | (simp_all; done) | skip)
    refine qa (qk (qb ?_))
    simp only [Try.results18, enA, ev0, evA, evB, evP, fl, gp, tab, simprocAttr]
    have e : ckL L = (2, 0) := by unfold ckL; rw [if_pos (by omega)]
    rw [e]
    exact ⟨rfl, rfl⟩
  · (try simp only [nhs] at hC1)
    have h20 : ¬ 20 < L.length := by omega
    refine qh (qa (qm ?_))
    refine hk_region fun K hK => runs_eval tab_ok ?_
    simp only [ev0, evA, evB, evP, fl, gp, tab, simprocAttr]
    refine fin_run trivial (hK _ ?_) <;> clear hK <;> clear K
    refine qa (qm (qm ?_))
    refine hk_region fun K hK => runs_eval tab_ok ?_
    simp only [ev0, evA, evB, evP, fl, gp, tab, simprocAttr]
    refine fin_run trivial (hK _ ?_) <;> clear hK <;> clear K
    refine qa (ql ?_)
    refine hk_loop (ι := Nat × Nat) (fun q => ⟨40, [(0, .p (.list (ll L))), (2, .ptr 0 0), (3, .p (.int .i64 (q.2 : Nat))), (4, .p (.int .i64 (q.1 : Nat)))], [.own [.p (.int .i64 0), .p (.int .i64 0)]]⟩) (fun q => q.1 ≤ L.length ∧ q.2 ≤ 2000 ∧ ckL L = ckG (L.drop q.1) q.1 q.2) (fun q => L.length - q.1) (0, 0) ⟨Nat.zero_le _, Nat.zero_le _, by unfold ckL; rw [if_neg h20]; rfl⟩ [0] (by simp only [leq, leA, ev0, evA, evB, evP, fl, gp, tab, simprocAttr] <;> trivial) fun q hq => ?_
    obtain ⟨i, n⟩ := q
    obtain ⟨q1, q2, q3⟩ := hq
    simp only at q1 q2 q3 ⊢
    refine qm (qm ?_)
    refine hk_region fun K hK => runs_eval tab_ok ?_
    simp only [ev0, evA, evB, evP, fl, gp, tab, simprocAttr, ll_length]
    refine fin_run trivial (hK _ ?_) <;> clear hK <;> clear K
    refine qa ?_
    refine hk_cond rfl (fun hC2 => ?_) (fun hC2 => ?_)
    · (try simp only [nhs] at hC2)
      have hi : i < L.length := by omega
      have hdr : L.drop i = L.getD i [] :: L.drop (i + 1) := by
        rw [List.drop_eq_getElem_cons hi, List.getD_eq_getElem?_getD, List.getElem?_eq_getElem hi]; rfl
      obtain ⟨w, hwd⟩ : ∃ w, L.getD i [] = w := ⟨_, rfl⟩
      have hwl : w.length ≤ 1000000000 := hw w (by rw [← hwd, List.getD_eq_getElem?_getD, List.getElem?_eq_getElem hi]; exact List.getElem_mem hi)
      rw [hdr, hwd, ckG] at q3
      refine qh (qa (qm (ql (qm ?_))))
      refine hk_region fun K hK => runs_eval tab_ok ?_
      simp only [ev0, evA, evB, evP, fl, gp, tab, simprocAttr, ll_length, ll_get hi, hwd]
      refine fin_stop ?_ (runs_call (wordFault_c w) rfl rfl rfl (by simp only [dstOk, Nat.reduceLT]) (by repeat (first | exact trivial | constructor)) (runs_eval tab_ok ?_))
      · (first | exact trivial | omega | exact ⟨by omega, by omega⟩ | trace_state)
      simp only [ev0, evA, evB, evP, fl, gp, tab, simprocAttr, ll_length, ll_get hi, hwd]
      refine fin_run ?_ (hK _ ?_) <;> clear hK <;> clear K
      · (first | exact trivial | omega | trace_state)
      refine qa (qm (qm ?_))
      refine hk_region fun K hK => runs_eval tab_ok ?_
      simp only [ev0, evA, evB, evP, fl, gp, tab, simprocAttr]
      refine fin_run ?_ (hK _ ?_) <;> clear hK <;> clear K
      · (first | exact trivial | omega | (simp only [In64] at *; omega) | (simp [In64] at *; omega) | (simp_all; done) | skip)
      refine qa ?_
      refine hk_cond rfl (fun hC3 => ?_) (fun hC3 => ?_)
      · (try simp only [nhs] at hC3)
        have h0 : (check w).1 ≠ 0 := hC3
        rw [if_pos h0] at q3
        refine qm ?_
        refine hk_region fun K hK => runs_eval tab_ok ?_
        simp only [ev0, evA, evB, evP, fl, gp, tab, simprocAttr]
        refine fin_stop trivial (runs_call (f_c (check w).1 i) rfl rfl rfl (by simp only [dstOk, Nat.reduceLT]) (by repeat (first | exact trivial | constructor)) (runs_eval tab_ok ?_))
        simp only [ev0, evA, evB, evP, fl, gp, tab, simprocAttr]
        refine fin_run ?_ (hK _ ?_) <;> clear hK <;> clear K
        · (first | exact trivial | omega | (simp only [In64] at *; omega) | (simp [In64] at *; omega) | (simp_all; done) | skip)
        refine qa (qk (qb (qe (qb (qb (qe (qb ?_)))))))
        simp only [Try.results18, enA, ev0, evA, evB, evP, fl, gp, tab, simprocAttr]
        all_goals (rw [q3]; exact ⟨rfl, rfl⟩)
      · (try simp only [nhs] at hC3)
        have h0 : ¬ (check w).1 ≠ 0 := fun h => h hC3
        rw [if_neg h0] at q3
        refine qh (qa (qm ?_))
        refine hk_region fun K hK => runs_eval tab_ok ?_
        simp only [ev0, evA, evB, evP, fl, gp, tab, simprocAttr, il_length, ll_length, ll_get hi, hwd]
        refine fin_run ?_ (hK _ ?_) <;> clear hK <;> clear K
        · (first | omega | (simp only [In64]; omega) | exact ⟨by omega, by simp only [In64]; omega⟩ | trace_state)
        refine qa (qm ?_)
        refine hk_region fun K hK => runs_eval tab_ok ?_
        simp only [ev0, evA, evB, evP, fl, gp, tab, simprocAttr]
        refine fin_run trivial (hK _ ?_) <;> clear hK <;> clear K
        refine qa ?_
        refine hk_cond rfl (fun hC4 => ?_) (fun hC4 => ?_)
        · (try simp only [nhs] at hC4)
          have h1 : 2000 < n + w.length := by omega
          rw [if_pos h1] at q3
          refine qm ?_
          refine hk_region fun K hK => runs_eval tab_ok ?_
          simp only [ev0, evA, evB, evP, fl, gp, tab, simprocAttr]
          refine fin_stop trivial (runs_call (f_c 2 i) rfl rfl rfl (by simp only [dstOk, Nat.reduceLT]) (by repeat (first | exact trivial | constructor)) (runs_eval tab_ok ?_))
          simp only [ev0, evA, evB, evP, fl, gp, tab, simprocAttr]
          refine fin_run ?_ (hK _ ?_) <;> clear hK <;> clear K
          · (first | exact trivial | omega | (simp only [In64] at *; omega) | (simp [In64] at *; omega) | (simp_all; done) | skip)
          refine qa (qk (qe (qb (qb (qe (qb ?_))))))
          simp only [Try.results18, enA, ev0, evA, evB, evP, fl, gp, tab, simprocAttr]
          all_goals (rw [q3]; exact ⟨rfl, rfl⟩)
        · (try simp only [nhs] at hC4)
          have h1 : ¬ 2000 < n + w.length := by omega
          rw [if_neg h1] at q3
          refine qh (qd (qa ?_))
          refine hk_region fun K hK => runs_eval tab_ok ?_
          simp only [ev0, evA, evB, evP, fl, gp, tab, simprocAttr]
          refine fin_run ?_ (hK _ ?_) <;> clear hK <;> clear K
          · (first | exact trivial | omega | (simp only [In64] at *; omega) | (simp [In64] at *; omega) | (simp_all; done) | skip)
          refine qa ?_
          refine ⟨(i + 1, n + w.length), [0], ⟨by simp only; omega, by simp only; omega, q3⟩, by simp only; omega, ?_⟩
          simp only [leq, leA, ev0, evA, evB, evP, fl, gp, tab, simprocAttr] <;> first | trivial | trace_state
    · (try simp only [nhs] at hC2)
      refine qj (qc (qc (qf (qa (qm ?_)))))
      refine hk_region fun K hK => runs_eval tab_ok ?_
      simp only [ev0, evA, evB, evP, fl, gp, tab, simprocAttr]
      refine fin_run ?_ (hK _ ?_) <;> clear hK <;> clear K
      · (first | exact trivial | omega | (simp only [In64] at *; omega) | (simp [In64] at *; omega) | (simp_all; done) | skip)
      refine qa (qk ?_)
      simp only [Try.results18, enA, ev0, evA, evB, evP, fl, gp, tab, simprocAttr]
      have hie : i = L.length := by omega
      rw [hie, List.drop_length, ckG] at q3
      rw [q3]
      exact ⟨rfl, rfl⟩
set_option maxHeartbeats 4000000 in
theorem lists_c (A B : List (List Int)) (hl : A.length ≤ 1000000000) (hw : ∀ w ∈ A, w.length ≤ 1000000000) : FnC Try.prog 38 [.list (ll A), .list (ll B)] (.bool (decide (A = B))) := by
  refine fnc_of tab_ok Try.func38 rfl (by kernel_rfl) (by rw [Try.ntmps38]; exact Nat.le_add_left 2 _) ?_; rw [Try.ntmps38]
  refine qm ?_
  refine hk_region fun K hK => runs_eval tab_ok ?_
  simp only [ev0, evA, evB, evP, fl, gp, tab, simprocAttr]
  refine fin_run trivial (hK _ ?_) <;> clear hK <;> clear K
  refine qa (qm (qm ?_))
  refine hk_region fun K hK => runs_eval tab_ok ?_
  simp only [ev0, evA, evB, evP, fl, gp, tab, simprocAttr, ll_length]
  refine fin_run trivial (hK _ ?_) <;> clear hK <;> clear K
  refine qa ?_
  refine hk_cond rfl (fun hC1 => ?_) (fun hC1 => ?_)
  · (try simp only [nhs] at hC1)
    have hne : A.length ≠ B.length := by omega
    refine qm ?_
    refine hk_region fun K hK => runs_eval tab_ok ?_
    simp only [ev0, evA, evB, evP, fl, gp, tab, simprocAttr]
    refine fin_run trivial (hK _ ?_) <;> clear hK <;> clear K
    refine qa (qk (qb ?_))
    simp only [Try.results38, enA, ev0, evA, evB, evP, fl, gp, tab, simprocAttr]
    all_goals (exact (decide_eq_false fun e => hne (by rw [e])).symm)
  · (try simp only [nhs] at hC1)
    have heq : A.length = B.length := by omega
    refine qh (qa (qm (qm ?_)))
    refine hk_region fun K hK => runs_eval tab_ok ?_
    simp only [ev0, evA, evB, evP, fl, gp, tab, simprocAttr]
    refine fin_run trivial (hK _ ?_) <;> clear hK <;> clear K
    refine qa (ql ?_)
    refine hk_loop (ι := Nat) (fun i => ⟨27, [(0, .p (.list (ll A))), (1, .p (.list (ll B))), (5, .p (.int .i64 (i : Nat)))], []⟩) (fun i => i ≤ A.length ∧ A.take i = B.take i) (fun i => A.length - i) 0 ⟨Nat.zero_le _, rfl⟩ [] (by simp only [leq, leA, ev0, evA, evB, evP, fl, gp, tab, simprocAttr] <;> trivial) fun i hq => ?_
    obtain ⟨q1, q2⟩ := hq
    refine qm (qm ?_)
    refine hk_region fun K hK => runs_eval tab_ok ?_
    simp only [ev0, evA, evB, evP, fl, gp, tab, simprocAttr, ll_length]
    refine fin_run trivial (hK _ ?_) <;> clear hK <;> clear K
    refine qa ?_
    refine hk_cond rfl (fun hC2 => ?_) (fun hC2 => ?_)
    · (try simp only [nhs] at hC2)
      have hi : i < A.length := by omega
      have hi2 : i < B.length := by omega
      have ha : A.take (i + 1) = A.take i ++ [A.getD i []] := by
        rw [List.take_succ, List.getElem?_eq_getElem hi, List.getD_eq_getElem?_getD, List.getElem?_eq_getElem hi]; rfl
      have hb : B.take (i + 1) = B.take i ++ [B.getD i []] := by
        rw [List.take_succ, List.getElem?_eq_getElem hi2, List.getD_eq_getElem?_getD, List.getElem?_eq_getElem hi2]; rfl
      refine qh (qa (qm (ql (qm ?_))))
      refine hk_draw mixed (by kernel_rfl) fun K hK => runs_eval tab_ok ?_
      simp only [ev0, evA, evB, evP, fl, gp, tab, simprocAttr, ll_length, ll_get hi, ll_get hi2]
      refine fin_stop ?_ (runs_call (ints_c (A.getD i []) (B.getD i []) (hw _ (by rw [List.getD_eq_getElem?_getD, List.getElem?_eq_getElem hi]; exact List.getElem_mem hi))) rfl rfl rfl (by simp only [dstOk, Nat.reduceLT]) (by repeat (first | exact trivial | constructor)) (runs_eval tab_ok ?_))
      · (first | omega | exact ⟨⟨by omega, by omega⟩, by omega⟩ | trace_state)
      simp only [ev0, evA, evB, evP, fl, gp, tab, simprocAttr, ll_length, ll_get hi, ll_get hi2]
      refine fin_run ?_ (hK _ ?_) <;> clear hK <;> clear K
      · (first | exact trivial | omega | (simp only [In64] at *; omega) | (simp [In64] at *; omega) | (simp_all; done) | skip)
      refine qa ?_
      refine hk_cond rfl (fun hC3 => ?_) (fun hC3 => ?_)
      · (try simp only [nhs] at hC3)
        have hne : A.getD i [] ≠ B.getD i [] := by simpa using hC3
        refine qm ?_
        refine hk_region fun K hK => runs_eval tab_ok ?_
        simp only [ev0, evA, evB, evP, fl, gp, tab, simprocAttr]
        refine fin_run trivial (hK _ ?_) <;> clear hK <;> clear K
        refine qa (qk (qe (qb (qb (qe (qb ?_))))))
        simp only [Try.results38, enA, ev0, evA, evB, evP, fl, gp, tab, simprocAttr]
        all_goals (exact (decide_eq_false fun e => hne (by rw [e])).symm)
      · (try simp only [nhs] at hC3)
        have he : A.getD i [] = B.getD i [] := by simpa using hC3
        refine qh (qd (qa ?_))
        refine hk_region fun K hK => runs_eval tab_ok ?_
        simp only [ev0, evA, evB, evP, fl, gp, tab, simprocAttr]
        refine fin_run ?_ (hK _ ?_) <;> clear hK <;> clear K
        · (first | exact trivial | omega | (simp only [In64] at *; omega) | (simp [In64] at *; omega) | (simp_all; done) | skip)
        refine qa ?_
        refine ⟨i + 1, [], ⟨by omega, by rw [ha, hb, q2, he]⟩, by omega, by simp only [leq, leA, ev0, evA, evB, evP, fl, gp, tab, simprocAttr] <;> first | trivial | trace_state⟩
    · (try simp only [nhs] at hC2)
      refine qj (qc (qc (qf (qa (qm ?_)))))
      refine hk_region fun K hK => runs_eval tab_ok ?_
      simp only [ev0, evA, evB, evP, fl, gp, tab, simprocAttr]
      refine fin_run trivial (hK _ ?_) <;> clear hK <;> clear K
      refine qa (qk ?_)
      simp only [Try.results38, enA, ev0, evA, evB, evP, fl, gp, tab, simprocAttr]
      have hie : i = A.length := by omega
      rw [hie, List.take_length, heq, List.take_length] at q2
      exact (decide_eq_true q2).symm
end Go.Proofs.Ytneglephfhiamaa

namespace Go.Proofs.Ytneglephfhiamaa
open Go.Pv
set_option maxHeartbeats 4000000 in
theorem ownLists_c (L : List (List Int)) (hl : L.length ≤ 1000000000) (hw : ∀ w ∈ L, w.length ≤ 1000000000) : FnC Try.prog 16 [.list (ll L)] (.list (ll L)) := by
  refine fnc_of tab_ok Try.func16 rfl (by kernel_rfl) (by rw [Try.ntmps16]; exact Nat.le_add_left 1 _) ?_; rw [Try.ntmps16]
  refine qm ?_
  refine hk_region fun K hK => runs_eval tab_ok ?_
  simp only [ev0, evA, evB, evP, fl, gp, tab, simprocAttr]
  refine fin_run trivial (hK _ ?_) <;> clear hK <;> clear K
  refine qa (qm ?_)
  refine hk_region fun K hK => runs_eval tab_ok ?_
  simp only [ev0, evA, evB, evP, fl, gp, tab, simprocAttr]
  refine fin_run trivial (hK _ ?_) <;> clear hK <;> clear K
  refine qa (qm (qm ?_))
  refine hk_own0 3 rfl ?_
  refine hk_region fun K hK => runs_eval tab_ok ?_
  simp only [ev0, evA, evB, evP, fl, gp, tab, simprocAttr]
  refine fin_run trivial (hK _ ?_) <;> clear hK <;> clear K
  refine qa (ql ?_)
  refine hk_loop (ι := Nat) (fun i => ⟨20, [(0, .p (.list (ll L))), (3, .sl 0 0 i), (4, .p (.int .i64 (i : Nat)))], [.own (opl (ll (L.take i)))]⟩) (fun i => i ≤ L.length) (fun i => L.length - i) 0 (Nat.zero_le _) [0] ⟨rfl, by decide, ⟨⟨rfl, rfl⟩, trivial⟩, rfl, rfl, rfl, rfl, rfl, rfl, trivial⟩ fun i hq => ?_
  refine qm (qm ?_)
  refine hk_region fun K hK => runs_eval tab_ok ?_
  simp only [ev0, evA, evB, evP, fl, gp, tab, simprocAttr, ll_length]
  refine fin_run trivial (hK _ ?_) <;> clear hK <;> clear K
  refine qa ?_
  refine hk_cond rfl (fun hC1 => ?_) (fun hC1 => ?_)
  · (try simp only [nhs] at hC1)
    have hi : i < L.length := by omega
    have hlen : (L.take i).length = i := by rw [List.length_take]; omega
    have ha : L.take (i + 1) = L.take i ++ [L.getD i []] := by
      rw [List.take_succ, List.getElem?_eq_getElem hi, List.getD_eq_getElem?_getD, List.getElem?_eq_getElem hi]; rfl
    have htk : List.take i (opl (ll (L.take i))) = opl (ll (L.take i)) := List.take_of_length_le (by rw [opl_length, ll_length, hlen]; exact Nat.le_refl _)
    refine qh (qa (qm (ql ?_)))
    refine hk_region fun K hK => runs_eval tab_ok ?_
    simp only [ev0, evA, evB, evP, fl, gp, tab, simprocAttr, ll_length, ll_get hi, htk, opl_length, hlen]
    refine fin_stop ?_ (runs_call (own_c (L.getD i []) (hw _ (by rw [List.getD_eq_getElem?_getD, List.getElem?_eq_getElem hi]; exact List.getElem_mem hi))) rfl rfl rfl (by simp only [dstOk, Nat.reduceLT]) (by repeat (first | exact trivial | constructor)) (runs_eval tab_ok ?_))
    · (first | exact trivial | omega | exact ⟨by omega, by omega⟩ | trace_state)
    simp only [ev0, evA, evB, evP, fl, gp, tab, simprocAttr, ll_length, ll_get hi, htk, opl_length, hlen]
    refine fin_run ?_ (hK _ ?_) <;> clear hK <;> clear K
    · exact ⟨Nat.le_refl _, by omega, by omega⟩
    refine qd (qa ?_)
    refine hk_region fun K hK => runs_eval tab_ok ?_
    simp only [ev0, evA, evB, evP, fl, gp, tab, simprocAttr]
    refine fin_run ?_ (hK _ ?_) <;> clear hK <;> clear K
    · (first | exact trivial | omega | (simp only [In64] at *; omega) | (simp [In64] at *; omega) | (simp_all; done) | skip)
    refine qa ?_
    refine ⟨i + 1, [1], by omega, by omega, rfl, by decide, ⟨⟨?_, ?_⟩, trivial⟩, rfl, rfl, rfl, rfl, rfl, rfl, trivial⟩
    · rw [ha, opl_ren]; exact (List.take_of_length_le (Nat.le_refl _)).symm
    · exact opl_sc _ _
  · (try simp only [nhs] at hC1)
    refine qj (qc (qc (qf (qa (qm ?_)))))
    have hie : i = L.length := by omega
    rw [hie, List.take_length]
    refine hk_sealp 3 0 (ll_all L) (by rw [ll_length]; rfl) rfl ?_
    refine hk_region fun K hK => runs_eval tab_ok ?_
    simp only [ev0, evA, evB, evP, fl, gp, tab, simprocAttr]
    refine fin_run trivial (hK _ ?_) <;> clear hK <;> clear K
    refine qa (qk ?_)
    simp only [Try.results16, enA, ev0, evA, evB, evP, fl, gp, tab, simprocAttr]
    all_goals ((first | exact rfl | exact ⟨rfl, rfl⟩ | exact ⟨rfl, rfl, rfl⟩ | exact ⟨trivial, rfl⟩ | exact ⟨Nat.le_refl _, rfl⟩ | trivial | (simp; done)))
theorem tot_mem : ∀ {L : List (List Int)} {w : List Int}, w ∈ L → w.length ≤ tot L
  | v :: L, w, h => by
    have e : tot (v :: L) = v.length + tot L := by simp [tot]
    rcases List.mem_cons.1 h with rfl | h
    · omega
    · have := tot_mem h; omega
end Go.Proofs.Ytneglephfhiamaa

namespace Go.Proofs.Ytneglephfhiamaa
open Go.Pv
def cI (x : Int) : Int := if 0 < x then 2 * x - 2 else -2 * x - 1
def ltn (n : Nat) : List Int := (List.range (2 * n + 1)).map fun (i : Nat) => (i : Int) - n
def rg (r : List Int) (x : Int) : Int := r.getD (cI x).toNat (-1)
def psh (r : List Int) (keep : Nat) (S : List E3) (x : Int) : List E3 := if x = 0 then S else if rg r x < 0 then S else ((rg r x).toNat, -x, keep) :: (keep, x, (rg r x).toNat) :: S
def setS (n : Nat) (N : List (List Int)) (U : List Int) (t : E3) (S : List E3) : List (List Int) × List Int × List E3 :=
  let a := ofV U t.1
  let U1 := ofU U t.1
  let b := ofV U1 t.2.2
  let U2 := ofU U1 t.2.2
  let u := rg (N.getD a []) t.2.1
  if u < 0 then (N.set a ((N.getD a []).set (cI t.2.1).toNat (b : Nat)), U2, S) else
  let r := ofV U2 u.toNat
  let U3 := ofU U2 u.toNat
  if r = b then (N, U3, S) else
  (N, U3.set (max r b) (min r b : Nat), (ltn n).foldl (psh (N.getD (max r b) []) (min r b)) S)
def setF (n : Nat) : Nat → List (List Int) → List Int → List E3 → Option (List (List Int) × List Int)
  | _, N, U, [] => some (N, U)
  | 0, _, _, _ :: _ => none
  | k + 1, N, U, t :: S => setF n k (setS n N U t S).1 (setS n N U t S).2.1 (setS n N U t S).2.2
structure WR (n : Nat) (N : List (List Int)) (U : List Int) : Prop where
  len : U.length = N.length
  fo : Fo U
  row : ∀ r ∈ N, r.length = 2 * n ∧ ∀ d ∈ r, -1 ≤ d ∧ d < N.length
def OkS (n k : Nat) (S : List E3) : Prop := ∀ t ∈ S, t.1 < k ∧ t.2.2 < k ∧ t.2.1 ≠ 0 ∧ -(n : Int) ≤ t.2.1 ∧ t.2.1 ≤ n
theorem cI_lt {n : Nat} {x : Int} (h0 : x ≠ 0) (h1 : -(n : Int) ≤ x) (h2 : x ≤ n) : 0 ≤ cI x ∧ (cI x).toNat < 2 * n := by
  unfold cI
  split <;> omega
theorem cI_inj {x y : Int} (hx : x ≠ 0) (hy : y ≠ 0) (h : (cI x).toNat = (cI y).toNat) : x = y := by
  unfold cI at h
  split at h <;> split at h <;> omega
theorem WR.at {n : Nat} {N : List (List Int)} {U : List Int} (w : WR n N U) {a : Nat} (ha : a < N.length) : (N.getD a []).length = 2 * n ∧ ∀ d ∈ N.getD a [], -1 ≤ d ∧ d < N.length := by
  rw [List.getD_eq_getElem?_getD, List.getElem?_eq_getElem ha]
  exact w.row _ (List.getElem_mem ha)
theorem WR.rg {n : Nat} {N : List (List Int)} {U : List Int} (w : WR n N U) {a : Nat} (ha : a < N.length) {x : Int} (h : ¬ rg (N.getD a []) x < 0) : (Go.Proofs.Ytneglephfhiamaa.rg (N.getD a []) x).toNat < N.length := by
  obtain ⟨h1, h2⟩ := w.at ha
  unfold Go.Proofs.Ytneglephfhiamaa.rg at h ⊢
  by_cases hl : (cI x).toNat < (N.getD a []).length
  · have := h2 _ (List.getElem_mem hl)
    have e : (N.getD a []).getD (cI x).toNat (-1) = (N.getD a [])[(cI x).toNat] := by rw [List.getD_eq_getElem?_getD, List.getElem?_eq_getElem hl]; rfl
    rw [e] at h ⊢
    omega
  · exfalso
    apply h
    rw [List.getD_eq_getElem?_getD, List.getElem?_eq_none (by omega)]
    decide
theorem WR.up {n : Nat} {N : List (List Int)} {U U' : List Int} (w : WR n N U) (hl : U'.length = U.length) (hf : Fo U') : WR n N U' := ⟨hl.trans w.len, hf, w.row⟩
theorem WR.of {n : Nat} {N : List (List Int)} {U : List Int} (w : WR n N U) {v : Nat} (hv : v < N.length) : WR n N (ofU U v) := w.up (ofU_len _ _) (ofU_fo w.fo (by rw [w.len]; exact hv))
theorem WR.put {n : Nat} {N : List (List Int)} {U : List Int} (w : WR n N U) {a b : Nat} {i : Nat} (ha : a < N.length) (hb : b < N.length) : WR n (N.set a ((N.getD a []).set i (b : Nat))) U := by
  refine ⟨by rw [List.length_set]; exact w.len, w.fo, fun r hr => ?_⟩
  rw [List.length_set]
  rcases List.mem_or_eq_of_mem_set hr with h | h
  · exact w.row r h
  · subst h
    obtain ⟨h1, h2⟩ := w.at ha
    refine ⟨by rw [List.length_set]; exact h1, fun d hd => ?_⟩
    rcases List.mem_or_eq_of_mem_set hd with h | h
    · exact h2 d h
    · subst h; omega
theorem psh_len (r : List Int) (keep : Nat) : ∀ (L : List Int) (S : List E3), (L.foldl (psh r keep) S).length ≤ S.length + 2 * L.length
  | [], S => by simp
  | x :: L, S => by
    rw [List.foldl_cons]
    have := psh_len r keep L (psh r keep S x)
    have h2 : (psh r keep S x).length ≤ S.length + 2 := by unfold psh; split <;> (try split) <;> simp
    simp only [List.length_cons]
    omega
theorem psh_ok {n k : Nat} {r : List Int} {keep : Nat} (hk : keep < k) (hr : ∀ x, ¬ rg r x < 0 → (rg r x).toNat < k) : ∀ (L : List Int) (S : List E3), (∀ x ∈ L, -(n : Int) ≤ x ∧ x ≤ n) → OkS n k S → OkS n k (L.foldl (psh r keep) S)
  | [], S, _, h => h
  | x :: L, S, hL, h => by
    rw [List.foldl_cons]
    refine psh_ok hk hr L _ (fun y hy => hL y (by simp [hy])) ?_
    obtain ⟨x1, x2⟩ := hL x (by simp)
    unfold psh
    split
    · exact h
    · split
      · exact h
      · rename_i h0 h1
        have := hr x h1
        intro t ht
        simp only [List.mem_cons] at ht
        rcases ht with rfl | rfl | ht
        · exact ⟨this, hk, by simp only; omega, by simp only; omega, by simp only; omega⟩
        · exact ⟨hk, this, by simp only; omega, by simp only; omega, by simp only; omega⟩
        · exact h t ht
theorem ltn_mem {n : Nat} {x : Int} : x ∈ ltn n ↔ -(n : Int) ≤ x ∧ x ≤ n := by
  unfold ltn
  rw [List.mem_map]
  constructor
  · rintro ⟨i, hi, rfl⟩
    have := List.mem_range.1 hi
    omega
  · intro h
    exact ⟨(x + n).toNat, List.mem_range.2 (by omega), by omega⟩
theorem ltn_len (n : Nat) : (ltn n).length = 2 * n + 1 := by simp [ltn]
def mS (n k : Nat) (U : List Int) (S : List E3) : Nat := nr U k * (4 * n + 3) + S.length
theorem setS_ok {n : Nat} {N : List (List Int)} {U : List Int} {t : E3} {S : List E3} (w : WR n N U) (h : OkS n N.length (t :: S)) :
    WR n (setS n N U t S).1 (setS n N U t S).2.1 ∧ (setS n N U t S).1.length = N.length ∧ OkS n N.length (setS n N U t S).2.2 ∧ mS n N.length (setS n N U t S).2.1 (setS n N U t S).2.2 < mS n N.length U (t :: S) := by
  obtain ⟨e0, x, e2⟩ := t
  obtain ⟨h0, h2, hx⟩ := h (e0, x, e2) (by simp)
  simp only at h0 h2 hx
  have hS : OkS n N.length S := fun t ht => h t (by simp [ht])
  have w1 := w.of h0
  have w2 := w1.of h2
  have r1 : ∀ u, u < N.length → rV (ofU U e0) u = rV U u := fun u hu => ofU_rV w.fo (by rw [w.len]; exact h0) (by rw [w.len]; exact hu)
  have r2 : ∀ u, u < N.length → rV (ofU (ofU U e0) e2) u = rV U u := fun u hu => by
    rw [ofU_rV w1.fo (by rw [w1.len]; exact h2) (by rw [w1.len]; exact hu)]; exact r1 u hu
  have ha : ofV U e0 < N.length := by
    rw [ofV_eq w.fo (by rw [w.len]; exact h0)]
    have := rV_le w.fo e0 (by rw [w.len]; exact h0)
    omega
  have hb : ofV (ofU U e0) e2 < N.length := by
    rw [ofV_eq w1.fo (by rw [w1.len]; exact h2)]
    have := rV_le w1.fo e2 (by rw [w1.len]; exact h2)
    omega
  unfold setS
  simp only
  split
  · exact ⟨w2.put ha hb, by rw [List.length_set], hS, by
      unfold mS
      rw [nr_same r2]
      simp only [List.length_cons]
      omega⟩
  · rename_i hu
    have hul := w.rg ha hu
    generalize (rg (N.getD (ofV U e0) []) x).toNat = u at hul
    have w3 := w2.of hul
    have r3 : ∀ v, v < N.length → rV (ofU (ofU (ofU U e0) e2) u) v = rV U v := fun v hv => by
      rw [ofU_rV w2.fo (by rw [w2.len]; exact hul) (by rw [w2.len]; exact hv)]; exact r2 v hv
    have hr : ofV (ofU (ofU U e0) e2) u = rV U u := by
      rw [ofV_eq w2.fo (by rw [w2.len]; exact hul)]; exact r2 u hul
    have hbq : ofV (ofU U e0) e2 = rV U e2 := by
      rw [ofV_eq w1.fo (by rw [w1.len]; exact h2)]; exact r1 e2 h2
    split
    · exact ⟨w3, rfl, hS, by
        unfold mS
        rw [nr_same r3]
        simp only [List.length_cons]
        omega⟩
    · rename_i hne
      rw [hr, hbq] at hne ⊢
      have i1 := rV_idem w.fo (v := u) (by rw [w.len]; exact hul)
      have i2 := rV_idem w.fo (v := e2) (by rw [w.len]; exact h2)
      have l1 := rV_le w.fo u (by rw [w.len]; exact hul)
      have l2 := rV_le w.fo e2 (by rw [w.len]; exact h2)
      obtain ⟨keep, hkd⟩ : ∃ k, min (rV U u) (rV U e2) = k := ⟨_, rfl⟩
      obtain ⟨gone, hgd⟩ : ∃ k, max (rV U u) (rV U e2) = k := ⟨_, rfl⟩
      rw [hkd, hgd]
      have hlt : keep < gone := by omega
      have hgl : gone < N.length := by omega
      have hkr : rV U keep = keep := by rcases (show keep = rV U u ∨ keep = rV U e2 by omega) with h | h <;> rw [h] <;> assumption
      have hgr : rV U gone = gone := by rcases (show gone = rV U u ∨ gone = rV U e2 by omega) with h | h <;> rw [h] <;> assumption
      have k3 : rV (ofU (ofU (ofU U e0) e2) u) keep = keep := by rw [r3 keep (by omega)]; exact hkr
      have g3 : rV (ofU (ofU (ofU U e0) e2) u) gone = gone := by rw [r3 gone hgl]; exact hgr
      have kk : (ofU (ofU (ofU U e0) e2) u).getD keep 0 = (keep : Int) := by have := rV_root w3.fo keep (by rw [w3.len]; omega); rwa [k3] at this
      have gg : (ofU (ofU (ofU U e0) e2) u).getD gone 0 = (gone : Int) := by have := rV_root w3.fo gone (by rw [w3.len]; omega); rwa [g3] at this
      have hj := rV_join w3.fo (by rw [w3.len]; exact hgl) hlt kk gg
      refine ⟨w3.up (by rw [List.length_set]) (w3.fo.join (by rw [w3.len]; exact hgl) hlt), rfl, psh_ok (by omega) (fun x hx => w.rg hgl hx) _ _ (fun x hx => ltn_mem.1 hx) hS, ?_⟩
      have h1 := nr_join (k := N.length) hlt hgl g3 k3 fun v hv => hj v (by rw [w3.len]; exact hv)
      rw [nr_same r3] at h1
      have h2 := psh_len (N.getD gone []) keep (ltn n) S
      rw [ltn_len] at h2
      unfold mS
      simp only [List.length_cons]
      have h3 : (nr ((ofU (ofU (ofU U e0) e2) u).set gone (keep : Int)) N.length + 1) * (4 * n + 3) ≤ nr U N.length * (4 * n + 3) := Nat.mul_le_mul_right _ h1
      rw [Nat.add_mul] at h3
      omega
theorem setF_end {n : Nat} : ∀ (k : Nat) (N : List (List Int)) (U : List Int) (S : List E3), WR n N U → OkS n N.length S → mS n N.length U S ≤ k → ∃ N' U', setF n k N U S = some (N', U') ∧ WR n N' U' ∧ N'.length = N.length
  | k, N, U, [], w, _, _ => by cases k <;> exact ⟨N, U, rfl, w, rfl⟩
  | 0, N, U, t :: S, w, _, h => by unfold mS at h; simp at h
  | k + 1, N, U, t :: S, w, hS, h => by
    obtain ⟨h1, h2, h3, h4⟩ := setS_ok w hS
    obtain ⟨N', U', g1, g2, g3⟩ := setF_end k _ _ _ h1 (by rw [h2]; exact h3) (by rw [h2]; omega)
    exact ⟨N', U', g1, g2, by rw [g3, h2]⟩
def setR (n : Nat) (N : List (List Int)) (U : List Int) (a : Nat) (x : Int) (b : Nat) : List (List Int) × List Int :=
  (setF n (N.length * (4 * n + 3) + 2) N U [(b, -x, a), (a, x, b)]).getD (N, U)
theorem setR_some {n : Nat} {N : List (List Int)} {U : List Int} {a b : Nat} {x : Int} (w : WR n N U) (ha : a < N.length) (hb : b < N.length) (hx : x ≠ 0 ∧ -(n : Int) ≤ x ∧ x ≤ n) :
    setF n (N.length * (4 * n + 3) + 2) N U [(b, -x, a), (a, x, b)] = some (setR n N U a x b) ∧ WR n (setR n N U a x b).1 (setR n N U a x b).2 ∧ (setR n N U a x b).1.length = N.length := by
  obtain ⟨N', U', h1, h2, h3⟩ := setF_end (n := n) (N.length * (4 * n + 3) + 2) N U [(b, -x, a), (a, x, b)] w (fun t ht => by
    simp only [List.mem_cons, List.not_mem_nil, or_false] at ht
    rcases ht with rfl | rfl
    · exact ⟨hb, ha, by simp only; omega, by simp only; omega, by simp only; omega⟩
    · exact ⟨ha, hb, hx⟩) (by
    unfold mS
    have := Nat.mul_le_mul_right (4 * n + 3) (nr_le U N.length)
    simp only [List.length_cons, List.length_nil]
    omega)
  have e : setR n N U a x b = (N', U') := by unfold setR; rw [h1]; rfl
  rw [e]
  exact ⟨h1, h2, h3⟩
end Go.Proofs.Ytneglephfhiamaa

namespace Go.Proofs.Ytneglephfhiamaa
open Go.Pv
def lls (L : List (List (List Int))) : List PV := L.map fun l => .list (ll l)
theorem lls_length (L : List (List (List Int))) : (lls L).length = L.length := by simp [lls]
theorem lls_get {L : List (List (List Int))} {i : Nat} (h : i < L.length) : (lls L).getD i default = .list (ll (L.getD i [])) := by
  simp [lls, List.getD, List.getElem?_eq_getElem h]
theorem pfault_c (c a : Int) : FnC Try.prog 70 [.int .i64 c, .int .i64 a] (fl (c, a)) := by
  refine fnc_of tab_ok Try.func70 rfl (by kernel_rfl) (by rw [Try.ntmps70]; exact Nat.le_add_left 2 _) ?_; rw [Try.ntmps70]
  refine qm ?_
  refine hk_region fun K hK => runs_eval tab_ok ?_
  simp only [ev0, evA, evB, evP, fl, gp, tab, simprocAttr]
  refine fin_run ?_ (hK _ ?_) <;> clear hK <;> clear K
  · (first | exact trivial | omega | (simp only [In64] at *; omega) | (simp [In64] at *; omega) | (simp_all; done) | skip)
  refine qa (qm ?_)
  refine hk_region fun K hK => runs_eval tab_ok ?_
  simp only [ev0, evA, evB, evP, fl, gp, tab, simprocAttr]
  refine fin_run ?_ (hK _ ?_) <;> clear hK <;> clear K
  · (first | exact trivial | omega | (simp only [In64] at *; omega) | (simp [In64] at *; omega) | (simp_all; done) | skip)
  refine qa (qk ?_)
  simp only [Try.results70, enA, ev0, evA, evB, evP, fl, gp, tab, simprocAttr]
  all_goals ((first | exact rfl | exact ⟨rfl, rfl⟩ | exact ⟨rfl, rfl, rfl⟩ | exact ⟨trivial, rfl⟩ | exact ⟨Nat.le_refl _, rfl⟩ | trivial | (simp; done)))
def badX (n x : Int) : Bool := decide (x > n) || decide (x < -n)
def badW (n : Int) (l : List (List Int)) : Bool := l.any fun w => w.any (badX n)
def lkG (n : Int) : List (List (List Int)) → Int → Int × Int
  | [], _ => (0, 0)
  | l :: r, k => if (ckL l).1 ≠ 0 then ckL l else if badW n l then (4, k + 1) else lkG n r (k + 1)
def lkF (n : Int) (L : List (List (List Int))) : Int × Int := if n < 1 ∨ 6 < n then (3, 1) else lkG n L 0
theorem any_dr {α : Type} {p : α → Bool} {L : List α} {i : Nat} {d : α} (h : i < L.length) : (L.drop i).any p = (p (L.getD i d) || (L.drop (i + 1)).any p) := by
  rw [List.drop_eq_getElem_cons h, List.any_cons, List.getD_eq_getElem?_getD, List.getElem?_eq_getElem h]; rfl
theorem any_at {α : Type} {p : α → Bool} {L : List α} {i : Nat} {d : α} (h : i < L.length) (hp : p (L.getD i d) = true) : L.any p = true := by
  refine List.any_eq_true.2 ⟨L.getD i d, ?_, hp⟩
  rw [List.getD_eq_getElem?_getD, List.getElem?_eq_getElem h]; exact List.getElem_mem h
theorem getD_mem' {α : Type} {L : List α} {i : Nat} {d : α} (h : i < L.length) : L.getD i d ∈ L := by
  rw [List.getD_eq_getElem?_getD, List.getElem?_eq_getElem h]; exact List.getElem_mem h
def SzL (L : List (List (List Int))) : Prop := L.length ≤ 1000000000 ∧ ∀ l ∈ L, l.length ≤ 1000000000 ∧ ∀ w ∈ l, w.length ≤ 1000000000
set_option maxHeartbeats 4000000 in
theorem look_c (n : Int) (L : List (List (List Int))) (hL : SzL L) : FnC Try.prog 69 [.int .i64 n, .list (lls L)] (fl (lkF n L)) := by
  refine fnc_of tab_ok Try.func69 rfl (by kernel_rfl) (by rw [Try.ntmps69]; exact Nat.le_add_left 2 _) ?_; rw [Try.ntmps69]
  have hLl := hL.1
  refine qm ?_
  refine hk_region fun K hK => runs_eval tab_ok ?_
  simp only [ev0, evA, evB, evP, fl, gp, tab, simprocAttr]
  refine fin_run ?_ (hK _ ?_) <;> clear hK <;> clear K
  · (first | exact trivial | omega | (simp only [In64] at *; omega) | (simp [In64] at *; omega) | (simp_all; done) | skip)
  refine qa (qm (qm ?_))
  by_cases g1a : n < 1
  · refine hk_region fun K hK => runs_eval tab_ok ?_
    simp only [ev0, evA, evB, evP, fl, gp, tab, simprocAttr, decide_eq_true g1a]
    refine fin_run trivial (hK _ ?_) <;> clear hK <;> clear K
    refine qa ?_
    refine hk_cond rfl (fun hC1 => ?_) (fun hC1 => ?_)
    · have hr : lkF n L = (3, 1) := by unfold lkF; rw [if_pos (by first | exact .inl g1a | omega)]
      refine qm ?_
      refine hk_region fun K hK => runs_eval tab_ok ?_
      simp only [ev0, evA, evB, evP, fl, gp, tab, simprocAttr]
      refine fin_stop trivial (runs_call (pfault_c 3 1) rfl rfl rfl (by simp only [dstOk, Nat.reduceLT]) (by repeat (first | exact trivial | constructor)) (runs_eval tab_ok ?_))
      simp only [ev0, evA, evB, evP, fl, gp, tab, simprocAttr]
      refine fin_run ?_ (hK _ ?_) <;> clear hK <;> clear K
      · (first | exact trivial | omega | (simp only [In64] at *; omega) | (simp [In64] at *; omega) | (simp_all; done) | skip)
      refine qa (qk (qb ?_))
      simp only [Try.results69, enA, ev0, evA, evB, evP, fl, gp, tab, simprocAttr]
      all_goals (rw [hr]; exact ⟨rfl, rfl⟩)
    · cases hC1
  · refine hk_region fun K hK => runs_eval tab_ok ?_
    simp only [ev0, evA, evB, evP, fl, gp, tab, simprocAttr, decide_eq_false g1a]
    refine fin_run trivial (hK _ ?_) <;> clear hK <;> clear K
    refine qa ?_
    refine hk_cond rfl (fun hC1 => ?_) (fun hC1 => ?_)
    · (try simp only [nhs] at hC1)
      have hr : lkF n L = (3, 1) := by unfold lkF; rw [if_pos (by first | exact .inl g1a | omega)]
      refine qm ?_
      refine hk_region fun K hK => runs_eval tab_ok ?_
      simp only [ev0, evA, evB, evP, fl, gp, tab, simprocAttr]
      refine fin_stop trivial (runs_call (pfault_c 3 1) rfl rfl rfl (by simp only [dstOk, Nat.reduceLT]) (by repeat (first | exact trivial | constructor)) (runs_eval tab_ok ?_))
      simp only [ev0, evA, evB, evP, fl, gp, tab, simprocAttr]
      refine fin_run ?_ (hK _ ?_) <;> clear hK <;> clear K
      · (first | exact trivial | omega | (simp only [In64] at *; omega) | (simp [In64] at *; omega) | (simp_all; done) | skip)
      refine qa (qk (qb ?_))
      simp only [Try.results69, enA, ev0, evA, evB, evP, fl, gp, tab, simprocAttr]
      all_goals (rw [hr]; exact ⟨rfl, rfl⟩)
    · (try simp only [nhs] at hC1)
      have h1 : 1 ≤ n := by omega
      have h6 : n ≤ 6 := by omega
      have hr : lkF n L = lkG n L 0 := by unfold lkF; rw [if_neg (by omega)]
      refine qh (qa (qm (qm ?_)))
      refine hk_region fun K hK => runs_eval tab_ok ?_
      simp only [ev0, evA, evB, evP, fl, gp, tab, simprocAttr, lls_length]
      refine fin_run trivial (hK _ ?_) <;> clear hK <;> clear K
      refine qa (ql ?_)
      refine hk_loop (ι := Nat) (fun i => ⟨60, [(0, .p (.int .i64 n)), (4, .ptr 0 0), (19, .p (.list (lls L))), (20, .p (.int .i64 L.length)), (21, .p (.int .i64 (i : Nat)))], [.own [.p (.int .i64 0), .p (.int .i64 0)]]⟩) (fun i => i ≤ L.length ∧ lkF n L = lkG n (L.drop i) i) (fun i => L.length - i) 0 ⟨Nat.zero_le _, hr⟩ [0] (by simp only [leq, leA, ev0, evA, evB, evP, fl, gp, tab, simprocAttr] <;> trivial) fun i hq => ?_
      obtain ⟨q1, q2⟩ := hq
      refine qm ?_
      refine hk_region fun K hK => runs_eval tab_ok ?_
      simp only [ev0, evA, evB, evP, fl, gp, tab, simprocAttr]
      refine fin_run trivial (hK _ ?_) <;> clear hK <;> clear K
      refine qa (qm ?_)
      refine hk_cond rfl (fun hC2 => ?_) (fun hC2 => ?_)
      · (try simp only [nhs] at hC2)
        have hi : i < L.length := by omega
        obtain ⟨l, hl⟩ : ∃ l, L.getD i [] = l := ⟨_, rfl⟩
        have hlm : l ∈ L := hl ▸ getD_mem' hi
        obtain ⟨hl1, hl2⟩ := hL.2 l hlm
        have hdr : L.drop i = l :: L.drop (i + 1) := by
          rw [List.drop_eq_getElem_cons hi, ← hl, List.getD_eq_getElem?_getD, List.getElem?_eq_getElem hi]; rfl
        rw [hdr, lkG] at q2
        refine qh (qa (qm (ql (qm ?_))))
        refine hk_region fun K hK => runs_eval tab_ok ?_
        simp only [ev0, evA, evB, evP, fl, gp, tab, simprocAttr, lls_length, lls_get hi, hl]
        refine fin_run ?_ (hK _ ?_) <;> clear hK <;> clear K
        · omega
        refine qa (qm (qm ?_))
        refine hk_region fun K hK => runs_eval tab_ok ?_
        simp only [ev0, evA, evB, evP, fl, gp, tab, simprocAttr]
        refine fin_stop trivial (runs_call (checkL_c l hl1 hl2) rfl rfl rfl (by simp only [dstOk, Nat.reduceLT]) (by repeat (first | exact trivial | constructor)) (runs_eval tab_ok ?_))
        simp only [ev0, evA, evB, evP, fl, gp, tab, simprocAttr]
        refine fin_run ?_ (hK _ ?_) <;> clear hK <;> clear K
        · (first | exact trivial | omega | (simp only [In64] at *; omega) | (simp [In64] at *; omega) | (simp_all; done) | skip)
        refine qa (qm ?_)
        refine hk_region fun K hK => runs_eval tab_ok ?_
        simp only [ev0, evA, evB, evP, fl, gp, tab, simprocAttr]
        refine fin_run ?_ (hK _ ?_) <;> clear hK <;> clear K
        · (first | exact trivial | omega | (simp only [In64] at *; omega) | (simp [In64] at *; omega) | (simp_all; done) | skip)
        refine qa ?_
        refine hk_cond rfl (fun hC3 => ?_) (fun hC3 => ?_)
        · (try simp only [nhs] at hC3)
          have h0 : (ckL l).1 ≠ 0 := hC3
          rw [if_pos h0] at q2
          refine qm ?_
          refine hk_region fun K hK => runs_eval tab_ok ?_
          simp only [ev0, evA, evB, evP, fl, gp, tab, simprocAttr]
          refine fin_run ?_ (hK _ ?_) <;> clear hK <;> clear K
          · (first | exact trivial | omega | (simp only [In64] at *; omega) | (simp [In64] at *; omega) | (simp_all; done) | skip)
          refine qa (qk (qb (qe (qb (qb (qe (qb ?_)))))))
          simp only [Try.results69, enA, ev0, evA, evB, evP, fl, gp, tab, simprocAttr]
          all_goals (rw [q2]; exact ⟨rfl, rfl⟩)
        · (try simp only [nhs] at hC3)
          have h0 : ¬ (ckL l).1 ≠ 0 := fun h => h hC3
          rw [if_neg h0] at q2
          refine qh (qa (qm ?_))
          refine hk_region fun K hK => runs_eval tab_ok ?_
          simp only [ev0, evA, evB, evP, fl, gp, tab, simprocAttr, ll_length]
          refine fin_run trivial (hK _ ?_) <;> clear hK <;> clear K
          refine qa (ql ?_)
          refine hk_loop (ι := Nat) (fun j => ⟨60, [(0, .p (.int .i64 n)), (4, .ptr 0 0), (5, .p (.int .i64 (i : Nat))), (19, .p (.list (lls L))), (20, .p (.int .i64 L.length)), (21, .p (.int .i64 (i : Nat))), (32, .p (.list (ll l))), (33, .p (.int .i64 l.length)), (34, .p (.int .i64 (j : Nat)))], [.own [.p (.int .i64 0), .p (.int .i64 0)]]⟩) (fun j => j ≤ l.length ∧ badW n l = badW n (l.drop j)) (fun j => l.length - j) 0 ⟨Nat.zero_le _, rfl⟩ [0] (by simp only [leq, leA, ev0, evA, evB, evP, fl, gp, tab, simprocAttr] <;> trivial) fun j hq => ?_
          obtain ⟨j1, j2⟩ := hq
          refine qm ?_
          refine hk_region fun K hK => runs_eval tab_ok ?_
          simp only [ev0, evA, evB, evP, fl, gp, tab, simprocAttr]
          refine fin_run trivial (hK _ ?_) <;> clear hK <;> clear K
          refine qa (qm ?_)
          refine hk_cond rfl (fun hC4 => ?_) (fun hC4 => ?_)
          · (try simp only [nhs] at hC4)
            have hj : j < l.length := by omega
            obtain ⟨w, hw⟩ : ∃ w, l.getD j [] = w := ⟨_, rfl⟩
            have hwl : w.length ≤ 1000000000 := hl2 w (hw ▸ getD_mem' hj)
            refine qh (qa (qm (ql (qm ?_))))
            refine hk_region fun K hK => runs_eval tab_ok ?_
            simp only [ev0, evA, evB, evP, fl, gp, tab, simprocAttr, ll_length, ll_get hj, hw]
            refine fin_run ?_ (hK _ ?_) <;> clear hK <;> clear K
            · omega
            refine qa (qm ?_)
            refine hk_region fun K hK => runs_eval tab_ok ?_
            simp only [ev0, evA, evB, evP, fl, gp, tab, simprocAttr, il_length]
            refine fin_run trivial (hK _ ?_) <;> clear hK <;> clear K
            refine qa (ql ?_)
            refine hk_loop (ι := Nat) (fun k => ⟨60, [(0, .p (.int .i64 n)), (4, .ptr 0 0), (5, .p (.int .i64 (i : Nat))), (19, .p (.list (lls L))), (20, .p (.int .i64 L.length)), (21, .p (.int .i64 (i : Nat))), (32, .p (.list (ll l))), (33, .p (.int .i64 l.length)), (34, .p (.int .i64 (j : Nat))), (38, .p (.list (il w))), (39, .p (.int .i64 w.length)), (40, .p (.int .i64 (k : Nat)))], [.own [.p (.int .i64 0), .p (.int .i64 0)]]⟩) (fun k => k ≤ w.length ∧ w.any (badX n) = (w.drop k).any (badX n)) (fun k => w.length - k) 0 ⟨Nat.zero_le _, rfl⟩ [0] (by simp only [leq, leA, ev0, evA, evB, evP, fl, gp, tab, simprocAttr] <;> trivial) fun k hq => ?_
            obtain ⟨k1, k2⟩ := hq
            refine qm ?_
            refine hk_region fun K hK => runs_eval tab_ok ?_
            simp only [ev0, evA, evB, evP, fl, gp, tab, simprocAttr]
            refine fin_run trivial (hK _ ?_) <;> clear hK <;> clear K
            refine qa (qm ?_)
            refine hk_cond rfl (fun hC5 => ?_) (fun hC5 => ?_)
            · (try simp only [nhs] at hC5)
              have hk : k < w.length := by omega
              obtain ⟨x, hx⟩ : ∃ x, w.getD k 0 = x := ⟨_, rfl⟩
              refine qh (qa (qm (ql (qm ?_))))
              refine hk_region fun K hK => runs_eval tab_ok ?_
              simp only [ev0, evA, evB, evP, fl, gp, tab, simprocAttr, il_length, il_get hk, hx]
              refine fin_run ?_ (hK _ ?_) <;> clear hK <;> clear K
              · omega
              refine qa (qm ?_)
              by_cases g15a : x > n
              · refine hk_region fun K hK => runs_eval tab_ok ?_
                simp only [ev0, evA, evB, evP, fl, gp, tab, simprocAttr, decide_eq_true g15a]
                refine fin_run ?_ (hK _ ?_) <;> clear hK <;> clear K
                · first | trivial | (simp only [In64]; omega)
                refine qa ?_
                refine hk_cond rfl (fun hC6 => ?_) (fun hC6 => ?_)
                · have hb : badW n l = true := by
                    refine any_at hj (d := []) ?_
                    rw [hw]
                    refine any_at hk (d := 0) ?_
                    rw [hx]
                    unfold badX
                    simp only [Bool.or_eq_true, decide_eq_true_eq]
                    first | exact .inl g15a | omega
                  rw [if_pos hb] at q2
                  refine qm ?_
                  refine hk_region fun K hK => runs_eval tab_ok ?_
                  simp only [ev0, evA, evB, evP, fl, gp, tab, simprocAttr]
                  refine fin_stop ?_ (runs_call (pfault_c 4 (i + 1)) rfl rfl rfl (by simp only [dstOk, Nat.reduceLT]) (by repeat (first | exact trivial | constructor)) (runs_eval tab_ok ?_))
                  · first | omega | (simp only [In64]; omega)
                  simp only [ev0, evA, evB, evP, fl, gp, tab, simprocAttr]
                  refine fin_run ?_ (hK _ ?_) <;> clear hK <;> clear K
                  · (first | exact trivial | omega | (simp only [In64] at *; omega) | (simp [In64] at *; omega) | (simp_all; done) | skip)
                  refine qa (qk (qe (qb (qb (qe (qe (qb (qb (qe (qe (qb (qb (qe (qb ?_))))))))))))))
                  simp only [Try.results69, enA, ev0, evA, evB, evP, fl, gp, tab, simprocAttr]
                  all_goals (rw [q2]; exact ⟨rfl, rfl⟩)
                · cases hC6
              · refine hk_region fun K hK => runs_eval tab_ok ?_
                simp only [ev0, evA, evB, evP, fl, gp, tab, simprocAttr, decide_eq_false g15a]
                refine fin_run ?_ (hK _ ?_) <;> clear hK <;> clear K
                · first | trivial | (simp only [In64]; omega)
                refine qa ?_
                refine hk_cond rfl (fun hC6 => ?_) (fun hC6 => ?_)
                · (try simp only [nhs] at hC6)
                  have hb : badW n l = true := by
                    refine any_at hj (d := []) ?_
                    rw [hw]
                    refine any_at hk (d := 0) ?_
                    rw [hx]
                    unfold badX
                    simp only [Bool.or_eq_true, decide_eq_true_eq]
                    first | exact .inl g15a | omega
                  rw [if_pos hb] at q2
                  refine qm ?_
                  refine hk_region fun K hK => runs_eval tab_ok ?_
                  simp only [ev0, evA, evB, evP, fl, gp, tab, simprocAttr]
                  refine fin_stop ?_ (runs_call (pfault_c 4 (i + 1)) rfl rfl rfl (by simp only [dstOk, Nat.reduceLT]) (by repeat (first | exact trivial | constructor)) (runs_eval tab_ok ?_))
                  · first | omega | (simp only [In64]; omega)
                  simp only [ev0, evA, evB, evP, fl, gp, tab, simprocAttr]
                  refine fin_run ?_ (hK _ ?_) <;> clear hK <;> clear K
                  · (first | exact trivial | omega | (simp only [In64] at *; omega) | (simp [In64] at *; omega) | (simp_all; done) | skip)
                  refine qa (qk (qe (qb (qb (qe (qe (qb (qb (qe (qe (qb (qb (qe (qb ?_))))))))))))))
                  simp only [Try.results69, enA, ev0, evA, evB, evP, fl, gp, tab, simprocAttr]
                  all_goals (rw [q2]; exact ⟨rfl, rfl⟩)
                · (try simp only [nhs] at hC6)
                  have hx1 : badX n x = false := by
                    unfold badX
                    simp only [Bool.or_eq_false_iff, decide_eq_false_iff_not]
                    omega
                  rw [any_dr hk (d := 0), hx, hx1, Bool.false_or] at k2
                  refine qh (qd (qa ?_))
                  refine hk_region fun K hK => runs_eval tab_ok ?_
                  simp only [ev0, evA, evB, evP, fl, gp, tab, simprocAttr]
                  refine fin_run ?_ (hK _ ?_) <;> clear hK <;> clear K
                  · (first | exact trivial | omega | (simp only [In64] at *; omega) | (simp [In64] at *; omega) | (simp_all; done) | skip)
                  refine qa ?_
                  refine ⟨k + 1, [0], ⟨by omega, k2⟩, by omega, by simp only [leq, leA, ev0, evA, evB, evP, fl, gp, tab, simprocAttr] <;> first | trivial | trace_state⟩
            · (try simp only [nhs] at hC5)
              have hkw : w.any (badX n) = false := by rw [k2, List.drop_eq_nil_of_le (by omega)]; rfl
              have j3 : badW n l = badW n (l.drop (j + 1)) := by
                rw [j2]
                unfold badW
                rw [any_dr hj (d := []), hw, hkw, Bool.false_or]
              refine qj (qc (qc (qf (qd (qa ?_)))))
              refine hk_region fun K hK => runs_eval tab_ok ?_
              simp only [ev0, evA, evB, evP, fl, gp, tab, simprocAttr]
              refine fin_run ?_ (hK _ ?_) <;> clear hK <;> clear K
              · (first | exact trivial | omega | (simp only [In64] at *; omega) | (simp [In64] at *; omega) | (simp_all; done) | skip)
              refine qa ?_
              refine ⟨j + 1, [0], ⟨by omega, j3⟩, by omega, by simp only [leq, leA, ev0, evA, evB, evP, fl, gp, tab, simprocAttr] <;> first | trivial | trace_state⟩
          · (try simp only [nhs] at hC4)
            have hb : ¬ badW n l = true := by rw [j2, List.drop_eq_nil_of_le (by omega)]; simp [badW]
            rw [if_neg hb] at q2
            refine qj (qc (qc (qf (qd (qa ?_)))))
            refine hk_region fun K hK => runs_eval tab_ok ?_
            simp only [ev0, evA, evB, evP, fl, gp, tab, simprocAttr]
            refine fin_run ?_ (hK _ ?_) <;> clear hK <;> clear K
            · (first | exact trivial | omega | (simp only [In64] at *; omega) | (simp [In64] at *; omega) | (simp_all; done) | skip)
            refine qa ?_
            refine ⟨i + 1, [0], ⟨by omega, q2⟩, by omega, by simp only [leq, leA, ev0, evA, evB, evP, fl, gp, tab, simprocAttr] <;> first | trivial | trace_state⟩
      · (try simp only [nhs] at hC2)
        rw [List.drop_eq_nil_of_le (by omega), lkG] at q2
        refine qj (qc (qc (qf (qa (qm ?_)))))
        refine hk_region fun K hK => runs_eval tab_ok ?_
        simp only [ev0, evA, evB, evP, fl, gp, tab, simprocAttr]
        refine fin_run ?_ (hK _ ?_) <;> clear hK <;> clear K
        · (first | exact trivial | omega | (simp only [In64] at *; omega) | (simp [In64] at *; omega) | (simp_all; done) | skip)
        refine qa (qk ?_)
        simp only [Try.results69, enA, ev0, evA, evB, evP, fl, gp, tab, simprocAttr]
        all_goals (rw [q2]; exact ⟨rfl, rfl⟩)
end Go.Proofs.Ytneglephfhiamaa

namespace Go.Proofs.Ytneglephfhiamaa
open Go.Pv
set_option maxHeartbeats 4000000 in
theorem presFault_c (n : Int) (L : List (List (List Int))) (hL : SzL L) : FnC Try.prog 44 [.int .i64 n, .list (lls L)] (fl (lkF n L)) := by
  refine fnc_of tab_ok Try.func44 rfl (by kernel_rfl) (by rw [Try.ntmps44]; exact Nat.le_add_left 2 _) ?_; rw [Try.ntmps44]
  have hLl := hL.1
  refine qm ?_
  refine hk_region fun K hK => runs_eval tab_ok ?_
  simp only [ev0, evA, evB, evP, fl, gp, tab, simprocAttr]
  refine fin_run ?_ (hK _ ?_) <;> clear hK <;> clear K
  · (first | exact trivial | omega | (simp only [In64] at *; omega) | (simp [In64] at *; omega) | (simp_all; done) | skip)
  refine qa (qm (qm ?_))
  by_cases g1a : n < 1
  · refine hk_region fun K hK => runs_eval tab_ok ?_
    simp only [ev0, evA, evB, evP, fl, gp, tab, simprocAttr, decide_eq_true g1a]
    refine fin_run trivial (hK _ ?_) <;> clear hK <;> clear K
    refine qa ?_
    refine hk_cond rfl (fun hC1 => ?_) (fun hC1 => ?_)
    · have hr : lkF n L = (3, 1) := by unfold lkF; rw [if_pos (by first | exact .inl g1a | omega)]
      refine qm ?_
      refine hk_region fun K hK => runs_eval tab_ok ?_
      simp only [ev0, evA, evB, evP, fl, gp, tab, simprocAttr]
      refine fin_stop trivial (runs_call (f_c 3 1) rfl rfl rfl (by simp only [dstOk, Nat.reduceLT]) (by repeat (first | exact trivial | constructor)) (runs_eval tab_ok ?_))
      simp only [ev0, evA, evB, evP, fl, gp, tab, simprocAttr]
      refine fin_run ?_ (hK _ ?_) <;> clear hK <;> clear K
      · (first | exact trivial | omega | (simp only [In64] at *; omega) | (simp [In64] at *; omega) | (simp_all; done) | skip)
      refine qa (qk (qb ?_))
      simp only [Try.results44, enA, ev0, evA, evB, evP, fl, gp, tab, simprocAttr]
      all_goals (rw [hr]; exact ⟨rfl, rfl⟩)
    · cases hC1
  · refine hk_region fun K hK => runs_eval tab_ok ?_
    simp only [ev0, evA, evB, evP, fl, gp, tab, simprocAttr, decide_eq_false g1a]
    refine fin_run trivial (hK _ ?_) <;> clear hK <;> clear K
    refine qa ?_
    refine hk_cond rfl (fun hC1 => ?_) (fun hC1 => ?_)
    · (try simp only [nhs] at hC1)
      have hr : lkF n L = (3, 1) := by unfold lkF; rw [if_pos (by first | exact .inl g1a | omega)]
      refine qm ?_
      refine hk_region fun K hK => runs_eval tab_ok ?_
      simp only [ev0, evA, evB, evP, fl, gp, tab, simprocAttr]
      refine fin_stop trivial (runs_call (f_c 3 1) rfl rfl rfl (by simp only [dstOk, Nat.reduceLT]) (by repeat (first | exact trivial | constructor)) (runs_eval tab_ok ?_))
      simp only [ev0, evA, evB, evP, fl, gp, tab, simprocAttr]
      refine fin_run ?_ (hK _ ?_) <;> clear hK <;> clear K
      · (first | exact trivial | omega | (simp only [In64] at *; omega) | (simp [In64] at *; omega) | (simp_all; done) | skip)
      refine qa (qk (qb ?_))
      simp only [Try.results44, enA, ev0, evA, evB, evP, fl, gp, tab, simprocAttr]
      all_goals (rw [hr]; exact ⟨rfl, rfl⟩)
    · (try simp only [nhs] at hC1)
      have h1 : 1 ≤ n := by omega
      have h6 : n ≤ 6 := by omega
      have hr : lkF n L = lkG n L 0 := by unfold lkF; rw [if_neg (by omega)]
      refine qh (qa (qm (qm ?_)))
      refine hk_region fun K hK => runs_eval tab_ok ?_
      simp only [ev0, evA, evB, evP, fl, gp, tab, simprocAttr]
      refine fin_run trivial (hK _ ?_) <;> clear hK <;> clear K
      refine qa (ql ?_)
      refine hk_loop (ι := Nat) (fun i => ⟨83, [(0, .p (.int .i64 n)), (1, .p (.list (lls L))), (4, .ptr 0 0), (5, .p (.int .i64 (i : Nat)))], [.own [.p (.int .i64 0), .p (.int .i64 0)]]⟩) (fun i => i ≤ L.length ∧ lkF n L = lkG n (L.drop i) i) (fun i => L.length - i) 0 ⟨Nat.zero_le _, hr⟩ [0] (by simp only [leq, leA, ev0, evA, evB, evP, fl, gp, tab, simprocAttr] <;> trivial) fun i hq => ?_
      obtain ⟨q1, q2⟩ := hq
      refine qm (qm ?_)
      refine hk_region fun K hK => runs_eval tab_ok ?_
      simp only [ev0, evA, evB, evP, fl, gp, tab, simprocAttr, lls_length]
      refine fin_run trivial (hK _ ?_) <;> clear hK <;> clear K
      refine qa ?_
      refine hk_cond rfl (fun hC2 => ?_) (fun hC2 => ?_)
      · (try simp only [nhs] at hC2)
        have hi : i < L.length := by omega
        obtain ⟨l, hl⟩ : ∃ l, L.getD i [] = l := ⟨_, rfl⟩
        have hlm : l ∈ L := hl ▸ getD_mem' hi
        obtain ⟨hl1, hl2⟩ := hL.2 l hlm
        have hdr : L.drop i = l :: L.drop (i + 1) := by
          rw [List.drop_eq_getElem_cons hi, ← hl, List.getD_eq_getElem?_getD, List.getElem?_eq_getElem hi]; rfl
        rw [hdr, lkG] at q2
        refine qh (qa (qm (ql (qm ?_))))
        refine hk_region fun K hK => runs_eval tab_ok ?_
        simp only [ev0, evA, evB, evP, fl, gp, tab, simprocAttr, lls_length, lls_get hi, hl]
        refine fin_stop ?_ (runs_call (someWords_c l hl1 hl2) rfl rfl rfl (by simp only [dstOk, Nat.reduceLT]) (by repeat (first | exact trivial | constructor)) (runs_eval tab_ok ?_))
        · first | trivial | omega | exact ⟨by omega, by omega⟩
        simp only [ev0, evA, evB, evP, fl, gp, tab, simprocAttr, lls_length, lls_get hi, hl]
        refine fin_run ?_ (hK _ ?_) <;> clear hK <;> clear K
        · first | trivial | omega
        refine qa (qm (qm ?_))
        refine hk_region fun K hK => runs_eval tab_ok ?_
        simp only [ev0, evA, evB, evP, fl, gp, tab, simprocAttr]
        refine fin_run ?_ (hK _ ?_) <;> clear hK <;> clear K
        · (first | exact trivial | omega | (simp only [In64] at *; omega) | (simp [In64] at *; omega) | (simp_all; done) | skip)
        refine qa ?_
        refine hk_cond rfl (fun hC3 => ?_) (fun hC3 => ?_)
        · (try simp only [nhs] at hC3)
          have h0 : (ckL l).1 ≠ 0 := hC3
          rw [if_pos h0] at q2
          refine qm ?_
          refine hk_region fun K hK => runs_eval tab_ok ?_
          simp only [ev0, evA, evB, evP, fl, gp, tab, simprocAttr]
          refine fin_run ?_ (hK _ ?_) <;> clear hK <;> clear K
          · (first | exact trivial | omega | (simp only [In64] at *; omega) | (simp [In64] at *; omega) | (simp_all; done) | skip)
          refine qa (qk (qb (qe (qb (qb (qe (qb ?_)))))))
          simp only [Try.results44, enA, ev0, evA, evB, evP, fl, gp, tab, simprocAttr]
          all_goals (rw [q2]; exact ⟨rfl, rfl⟩)
        · (try simp only [nhs] at hC3)
          have h0 : ¬ (ckL l).1 ≠ 0 := fun h => h hC3
          rw [if_neg h0] at q2
          refine qh (qa (qm ?_))
          refine hk_region fun K hK => runs_eval tab_ok ?_
          simp only [ev0, evA, evB, evP, fl, gp, tab, simprocAttr]
          refine fin_run trivial (hK _ ?_) <;> clear hK <;> clear K
          refine qa (ql ?_)
          refine hk_loop (ι := Nat) (fun j => ⟨83, [(0, .p (.int .i64 n)), (1, .p (.list (lls L))), (4, .ptr 0 0), (5, .p (.int .i64 (i : Nat))), (7, .p (.int .i64 (j : Nat)))], [.own [.p (.int .i64 0), .p (.int .i64 0)]]⟩) (fun j => j ≤ l.length ∧ badW n l = badW n (l.drop j)) (fun j => l.length - j) 0 ⟨Nat.zero_le _, rfl⟩ [0] (by simp only [leq, leA, ev0, evA, evB, evP, fl, gp, tab, simprocAttr] <;> trivial) fun j hq => ?_
          obtain ⟨j1, j2⟩ := hq
          refine qm (qm ?_)
          refine hk_region fun K hK => runs_eval tab_ok ?_
          simp only [ev0, evA, evB, evP, fl, gp, tab, simprocAttr, lls_length, lls_get hi, hl, ll_length]
          refine fin_run ?_ (hK _ ?_) <;> clear hK <;> clear K
          · omega
          refine qa ?_
          refine hk_cond rfl (fun hC4 => ?_) (fun hC4 => ?_)
          · (try simp only [nhs] at hC4)
            have hj : j < l.length := by omega
            obtain ⟨w, hw⟩ : ∃ w, l.getD j [] = w := ⟨_, rfl⟩
            have hwl : w.length ≤ 1000000000 := hl2 w (hw ▸ getD_mem' hj)
            refine qh (qa (qm (ql (qm ?_))))
            refine hk_region fun K hK => runs_eval tab_ok ?_
            simp only [ev0, evA, evB, evP, fl, gp, tab, simprocAttr]
            refine fin_run trivial (hK _ ?_) <;> clear hK <;> clear K
            refine qa (ql ?_)
            refine hk_loop (ι := Nat) (fun k => ⟨83, [(0, .p (.int .i64 n)), (1, .p (.list (lls L))), (4, .ptr 0 0), (5, .p (.int .i64 (i : Nat))), (7, .p (.int .i64 (j : Nat))), (8, .p (.int .i64 (k : Nat)))], [.own [.p (.int .i64 0), .p (.int .i64 0)]]⟩) (fun k => k ≤ w.length ∧ w.any (badX n) = (w.drop k).any (badX n)) (fun k => w.length - k) 0 ⟨Nat.zero_le _, rfl⟩ [0] (by simp only [leq, leA, ev0, evA, evB, evP, fl, gp, tab, simprocAttr] <;> trivial) fun k hq => ?_
            obtain ⟨k1, k2⟩ := hq
            refine qm (qm ?_)
            refine hk_region fun K hK => runs_eval tab_ok ?_
            simp only [ev0, evA, evB, evP, fl, gp, tab, simprocAttr, lls_length, lls_get hi, hl, ll_length, ll_get hj, hw, il_length]
            refine fin_run ?_ (hK _ ?_) <;> clear hK <;> clear K
            · first | omega | exact ⟨by omega, by omega⟩
            refine qa ?_
            refine hk_cond rfl (fun hC5 => ?_) (fun hC5 => ?_)
            · (try simp only [nhs] at hC5)
              have hk : k < w.length := by omega
              obtain ⟨x, hx⟩ : ∃ x, w.getD k 0 = x := ⟨_, rfl⟩
              refine qh (qa (qm (ql (qm ?_))))
              by_cases g15a : x > n
              · refine hk_region fun K hK => runs_eval tab_ok ?_
                simp only [ev0, evA, evB, evP, fl, gp, tab, simprocAttr, lls_length, lls_get hi, hl, ll_length, ll_get hj, hw, il_length, il_get hk, hx, decide_eq_true g15a]
                refine fin_run ?_ (hK _ ?_) <;> clear hK <;> clear K
                · first | trivial | omega | (simp only [In64]; omega) | (refine ⟨?_, ?_⟩ <;> first | omega | (simp only [In64]; omega)) | (repeat (first | omega | (simp only [In64]; omega) | constructor))
                refine qa ?_
                refine hk_cond rfl (fun hC6 => ?_) (fun hC6 => ?_)
                · have hb : badW n l = true := by
                    refine any_at hj (d := []) ?_
                    rw [hw]
                    refine any_at hk (d := 0) ?_
                    rw [hx]
                    unfold badX
                    simp only [Bool.or_eq_true, decide_eq_true_eq]
                    first | exact .inl g15a | omega
                  rw [if_pos hb] at q2
                  refine qm ?_
                  refine hk_region fun K hK => runs_eval tab_ok ?_
                  simp only [ev0, evA, evB, evP, fl, gp, tab, simprocAttr]
                  refine fin_stop ?_ (runs_call (f_c 4 (i + 1)) rfl rfl rfl (by simp only [dstOk, Nat.reduceLT]) (by repeat (first | exact trivial | constructor)) (runs_eval tab_ok ?_))
                  · first | omega | (simp only [In64]; omega)
                  simp only [ev0, evA, evB, evP, fl, gp, tab, simprocAttr]
                  refine fin_run ?_ (hK _ ?_) <;> clear hK <;> clear K
                  · (first | exact trivial | omega | (simp only [In64] at *; omega) | (simp [In64] at *; omega) | (simp_all; done) | skip)
                  refine qa (qk (qe (qb (qb (qe (qe (qb (qb (qe (qe (qb (qb (qe (qb ?_))))))))))))))
                  simp only [Try.results44, enA, ev0, evA, evB, evP, fl, gp, tab, simprocAttr]
                  all_goals (rw [q2]; exact ⟨rfl, rfl⟩)
                · cases hC6
              · refine hk_region fun K hK => runs_eval tab_ok ?_
                simp only [ev0, evA, evB, evP, fl, gp, tab, simprocAttr, lls_length, lls_get hi, hl, ll_length, ll_get hj, hw, il_length, il_get hk, hx, decide_eq_false g15a]
                refine fin_run ?_ (hK _ ?_) <;> clear hK <;> clear K
                · first | trivial | omega | (simp only [In64]; omega) | (refine ⟨?_, ?_⟩ <;> first | omega | (simp only [In64]; omega)) | (repeat (first | omega | (simp only [In64]; omega) | constructor))
                refine qa ?_
                refine hk_cond rfl (fun hC6 => ?_) (fun hC6 => ?_)
                · (try simp only [nhs] at hC6)
                  have hb : badW n l = true := by
                    refine any_at hj (d := []) ?_
                    rw [hw]
                    refine any_at hk (d := 0) ?_
                    rw [hx]
                    unfold badX
                    simp only [Bool.or_eq_true, decide_eq_true_eq]
                    first | exact .inl g15a | omega
                  rw [if_pos hb] at q2
                  refine qm ?_
                  refine hk_region fun K hK => runs_eval tab_ok ?_
                  simp only [ev0, evA, evB, evP, fl, gp, tab, simprocAttr]
                  refine fin_stop ?_ (runs_call (f_c 4 (i + 1)) rfl rfl rfl (by simp only [dstOk, Nat.reduceLT]) (by repeat (first | exact trivial | constructor)) (runs_eval tab_ok ?_))
                  · first | omega | (simp only [In64]; omega)
                  simp only [ev0, evA, evB, evP, fl, gp, tab, simprocAttr]
                  refine fin_run ?_ (hK _ ?_) <;> clear hK <;> clear K
                  · (first | exact trivial | omega | (simp only [In64] at *; omega) | (simp [In64] at *; omega) | (simp_all; done) | skip)
                  refine qa (qk (qe (qb (qb (qe (qe (qb (qb (qe (qe (qb (qb (qe (qb ?_))))))))))))))
                  simp only [Try.results44, enA, ev0, evA, evB, evP, fl, gp, tab, simprocAttr]
                  all_goals (rw [q2]; exact ⟨rfl, rfl⟩)
                · (try simp only [nhs] at hC6)
                  have hx1 : badX n x = false := by
                    unfold badX
                    simp only [Bool.or_eq_false_iff, decide_eq_false_iff_not]
                    omega
                  rw [any_dr hk (d := 0), hx, hx1, Bool.false_or] at k2
                  refine qh (qd (qa ?_))
                  refine hk_region fun K hK => runs_eval tab_ok ?_
                  simp only [ev0, evA, evB, evP, fl, gp, tab, simprocAttr]
                  refine fin_run ?_ (hK _ ?_) <;> clear hK <;> clear K
                  · (first | exact trivial | omega | (simp only [In64] at *; omega) | (simp [In64] at *; omega) | (simp_all; done) | skip)
                  refine qa ?_
                  refine ⟨k + 1, [0], ⟨by omega, k2⟩, by omega, by simp only [leq, leA, ev0, evA, evB, evP, fl, gp, tab, simprocAttr] <;> first | trivial | trace_state⟩
            · (try simp only [nhs] at hC5)
              have hkw : w.any (badX n) = false := by rw [k2, List.drop_eq_nil_of_le (by omega)]; rfl
              have j3 : badW n l = badW n (l.drop (j + 1)) := by
                rw [j2]
                unfold badW
                rw [any_dr hj (d := []), hw, hkw, Bool.false_or]
              refine qj (qc (qc (qf (qd (qa ?_)))))
              refine hk_region fun K hK => runs_eval tab_ok ?_
              simp only [ev0, evA, evB, evP, fl, gp, tab, simprocAttr]
              refine fin_run ?_ (hK _ ?_) <;> clear hK <;> clear K
              · (first | exact trivial | omega | (simp only [In64] at *; omega) | (simp [In64] at *; omega) | (simp_all; done) | skip)
              refine qa ?_
              refine ⟨j + 1, [0], ⟨by omega, j3⟩, by omega, by simp only [leq, leA, ev0, evA, evB, evP, fl, gp, tab, simprocAttr] <;> first | trivial | trace_state⟩
          · (try simp only [nhs] at hC4)
            have hb : ¬ badW n l = true := by rw [j2, List.drop_eq_nil_of_le (by omega)]; simp [badW]
            rw [if_neg hb] at q2
            refine qj (qc (qc (qf (qd (qa ?_)))))
            refine hk_region fun K hK => runs_eval tab_ok ?_
            simp only [ev0, evA, evB, evP, fl, gp, tab, simprocAttr]
            refine fin_run ?_ (hK _ ?_) <;> clear hK <;> clear K
            · (first | exact trivial | omega | (simp only [In64] at *; omega) | (simp [In64] at *; omega) | (simp_all; done) | skip)
            refine qa ?_
            refine ⟨i + 1, [0], ⟨by omega, q2⟩, by omega, by simp only [leq, leA, ev0, evA, evB, evP, fl, gp, tab, simprocAttr] <;> first | trivial | trace_state⟩
      · (try simp only [nhs] at hC2)
        rw [List.drop_eq_nil_of_le (by omega), lkG] at q2
        refine qj (qc (qc (qf (qa (qm ?_)))))
        refine hk_region fun K hK => runs_eval tab_ok ?_
        simp only [ev0, evA, evB, evP, fl, gp, tab, simprocAttr]
        refine fin_run ?_ (hK _ ?_) <;> clear hK <;> clear K
        · (first | exact trivial | omega | (simp only [In64] at *; omega) | (simp [In64] at *; omega) | (simp_all; done) | skip)
        refine qa (qk ?_)
        simp only [Try.results44, enA, ev0, evA, evB, evP, fl, gp, tab, simprocAttr]
        all_goals (rw [q2]; exact ⟨rfl, rfl⟩)
def ltT (L : List (List (List Int))) : Nat := (L.map tot).foldr (· + ·) 0
theorem ltT_cons (l : List (List Int)) (L : List (List (List Int))) : ltT (l :: L) = tot l + ltT L := rfl
theorem ltT_take {L : List (List (List Int))} {i : Nat} (h : i < L.length) : ltT (L.take (i + 1)) = ltT (L.take i) + tot (L.getD i []) := by
  induction L generalizing i with
  | nil => simp at h
  | cons l L ih =>
    cases i with
    | zero => simp [ltT]
    | succ i =>
      have := ih (i := i) (by simpa using h)
      simp only [List.take_succ_cons, ltT_cons, this, List.getD_cons_succ]
      omega
theorem ltT_le (L : List (List (List Int))) (i : Nat) : ltT (L.take i) ≤ ltT L := by
  induction L generalizing i with
  | nil => simp
  | cons l L ih =>
    cases i with
    | zero => simp [ltT]
    | succ i =>
      have := ih i
      simp only [List.take_succ_cons, ltT_cons]
      omega
set_option maxHeartbeats 4000000 in
theorem letters_c2 (L : List (List (List Int))) (hl : L.length ≤ 1000) (hl2 : ∀ l ∈ L, l.length ≤ 1000000000) (hb : ltT L ≤ 4000000000000000000) : FnC Try.prog 42 [.list (lls L)] (.int .i64 (ltT L)) := by
  refine fnc_of tab_ok Try.func42 rfl (by kernel_rfl) (by rw [Try.ntmps42]; exact Nat.le_add_left 1 _) ?_; rw [Try.ntmps42]
  refine qm ?_
  refine hk_region fun K hK => runs_eval tab_ok ?_
  simp only [ev0, evA, evB, evP, fl, gp, tab, simprocAttr]
  refine fin_run trivial (hK _ ?_) <;> clear hK <;> clear K
  refine qa (qm ?_)
  refine hk_region fun K hK => runs_eval tab_ok ?_
  simp only [ev0, evA, evB, evP, fl, gp, tab, simprocAttr]
  refine fin_run trivial (hK _ ?_) <;> clear hK <;> clear K
  refine qa (qm (qm ?_))
  refine hk_region fun K hK => runs_eval tab_ok ?_
  simp only [ev0, evA, evB, evP, fl, gp, tab, simprocAttr]
  refine fin_run trivial (hK _ ?_) <;> clear hK <;> clear K
  refine qa (ql ?_)
  refine hk_loop (ι := Nat) (fun i => ⟨32, [(0, .p (.list (lls L))), (3, .p (.int .i64 (ltT (L.take i) : Nat))), (4, .p (.int .i64 (i : Nat)))], []⟩) (fun i => i ≤ L.length) (fun i => L.length - i) 0 (Nat.zero_le _) [] ⟨rfl, List.nodup_nil, trivial, rfl, rfl, by simp [ltT]; rfl, rfl, rfl, rfl, trivial⟩ fun i hq => ?_
  refine qm (qm ?_)
  refine hk_region fun K hK => runs_eval tab_ok ?_
  simp only [ev0, evA, evB, evP, fl, gp, tab, simprocAttr, lls_length]
  refine fin_run trivial (hK _ ?_) <;> clear hK <;> clear K
  refine qa ?_
  refine hk_cond rfl (fun hC1 => ?_) (fun hC1 => ?_)
  · (try simp only [nhs] at hC1)
    have hi : i < L.length := by omega
    obtain ⟨l, hl'⟩ : ∃ l, L.getD i [] = l := ⟨_, rfl⟩
    have hll := hl2 l (hl' ▸ getD_mem' hi)
    have ht := ltT_take hi
    have htl := ltT_le L (i + 1)
    rw [hl'] at ht
    refine qh (qa (qm (ql (qm ?_))))
    refine hk_region fun K hK => runs_eval tab_ok ?_
    simp only [ev0, evA, evB, evP, fl, gp, tab, simprocAttr]
    refine fin_run trivial (hK _ ?_) <;> clear hK <;> clear K
    refine qa (ql ?_)
    refine hk_loop (ι := Nat) (fun j => ⟨32, [(0, .p (.list (lls L))), (3, .p (.int .i64 ((ltT (L.take i) + tot (l.take j) : Nat) : Int))), (4, .p (.int .i64 (i : Nat))), (5, .p (.int .i64 (j : Nat)))], []⟩) (fun j => j ≤ l.length) (fun j => l.length - j) 0 (Nat.zero_le _) [] ⟨rfl, List.nodup_nil, trivial, rfl, rfl, by simp [tot]; rfl, rfl, rfl, rfl, rfl, rfl, trivial⟩ fun j hj => ?_
    refine qm (qm ?_)
    refine hk_region fun K hK => runs_eval tab_ok ?_
    simp only [ev0, evA, evB, evP, fl, gp, tab, simprocAttr, lls_length, lls_get hi, hl', ll_length]
    refine fin_run ?_ (hK _ ?_) <;> clear hK <;> clear K
    · omega
    refine qa ?_
    refine hk_cond rfl (fun hC2 => ?_) (fun hC2 => ?_)
    · (try simp only [nhs] at hC2)
      have hjl : j < l.length := by omega
      have htj : tot (l.take (j + 1)) = tot (l.take j) + (l.getD j []).length := by rw [take_snoc (d := []) hjl, tot_sn]
      have htk := tot_tk l (j + 1)
      refine qh (qa (qm (ql ?_)))
      refine hk_region fun K hK => runs_eval tab_ok ?_
      simp only [ev0, evA, evB, evP, fl, gp, tab, simprocAttr, lls_length, lls_get hi, hl', ll_length, ll_get hjl, il_length]
      refine fin_run ?_ (hK _ ?_) <;> clear hK <;> clear K
      · (repeat (first | omega | (simp only [In64]; omega) | constructor))
      refine qd (qa ?_)
      refine hk_region fun K hK => runs_eval tab_ok ?_
      simp only [ev0, evA, evB, evP, fl, gp, tab, simprocAttr]
      refine fin_run ?_ (hK _ ?_) <;> clear hK <;> clear K
      · (first | exact trivial | omega | (simp only [In64] at *; omega) | (simp [In64] at *; omega) | (simp_all; done) | skip)
      refine qa ?_
      refine ⟨j + 1, [], by omega, by omega, ?_⟩
      rw [htj]
      have e : ((ltT (L.take i) + (tot (l.take j) + (l.getD j []).length) : Nat) : Int) = ((ltT (L.take i) + tot (l.take j) : Nat) : Int) + ((l.getD j []).length : Int) := by omega
      rw [e]
      simp only [leq, leA, ev0, evA, evB, evP, fl, gp, tab, simprocAttr] <;> first | trivial | trace_state
    · (try simp only [nhs] at hC2)
      have hje : j = l.length := by omega
      rw [hje, List.take_length, ← ht]
      refine qj (qc (qc (qf (qd (qa ?_)))))
      refine hk_region fun K hK => runs_eval tab_ok ?_
      simp only [ev0, evA, evB, evP, fl, gp, tab, simprocAttr]
      refine fin_run ?_ (hK _ ?_) <;> clear hK <;> clear K
      · (first | exact trivial | omega | (simp only [In64] at *; omega) | (simp [In64] at *; omega) | (simp_all; done) | skip)
      refine qa ?_
      refine ⟨i + 1, [], by omega, by omega, by simp only [leq, leA, ev0, evA, evB, evP, fl, gp, tab, simprocAttr] <;> first | trivial | trace_state⟩
  · (try simp only [nhs] at hC1)
    have hie : i = L.length := by omega
    rw [hie, List.take_length]
    refine qj (qc (qc (qf (qa (qm ?_)))))
    refine hk_region fun K hK => runs_eval tab_ok ?_
    simp only [ev0, evA, evB, evP, fl, gp, tab, simprocAttr]
    refine fin_run trivial (hK _ ?_) <;> clear hK <;> clear K
    refine qa (qk ?_)
    simp only [Try.results42, enA, ev0, evA, evB, evP, fl, gp, tab, simprocAttr]
    all_goals ((first | exact rfl | exact ⟨rfl, rfl⟩ | exact ⟨rfl, rfl, rfl⟩ | exact ⟨trivial, rfl⟩ | exact ⟨Nat.le_refl _, rfl⟩ | trivial | (simp; done)))
set_option maxHeartbeats 4000000 in
theorem shorts_c (L : List (List Int)) (hl : L.length ≤ 1000000000) (hw : ∀ w ∈ L, w.length ≤ 1000000000 ∧ Lt26 w) : FnC Try.prog 71 [.list (ll L)] (.list (ll (L.map short))) := by
  refine fnc_of tab_ok Try.func71 rfl (by kernel_rfl) (by rw [Try.ntmps71]; exact Nat.le_add_left 1 _) ?_; rw [Try.ntmps71]
  refine qm ?_
  refine hk_region fun K hK => runs_eval tab_ok ?_
  simp only [ev0, evA, evB, evP, fl, gp, tab, simprocAttr]
  refine fin_run trivial (hK _ ?_) <;> clear hK <;> clear K
  refine qa (qm ?_)
  refine hk_region fun K hK => runs_eval tab_ok ?_
  simp only [ev0, evA, evB, evP, fl, gp, tab, simprocAttr]
  refine fin_run trivial (hK _ ?_) <;> clear hK <;> clear K
  refine qa (qm (qm ?_))
  refine hk_own0 3 rfl ?_
  refine hk_region fun K hK => runs_eval tab_ok ?_
  simp only [ev0, evA, evB, evP, fl, gp, tab, simprocAttr, ll_length]
  refine fin_run trivial (hK _ ?_) <;> clear hK <;> clear K
  refine qa (ql ?_)
  refine hk_loop (ι := Nat) (fun i => ⟨19, [(3, .sl 0 0 i), (6, .p (.list (ll L))), (7, .p (.int .i64 L.length)), (8, .p (.int .i64 (i : Nat)))], [.own (opl (ll ((L.take i).map short)))]⟩) (fun i => i ≤ L.length) (fun i => L.length - i) 0 (Nat.zero_le _) [0] ⟨rfl, by decide, ⟨⟨rfl, rfl⟩, trivial⟩, rfl, rfl, rfl, rfl, rfl, rfl, rfl, rfl, trivial⟩ fun i hq => ?_
  refine qm ?_
  refine hk_region fun K hK => runs_eval tab_ok ?_
  simp only [ev0, evA, evB, evP, fl, gp, tab, simprocAttr]
  refine fin_run trivial (hK _ ?_) <;> clear hK <;> clear K
  refine qa (qm ?_)
  refine hk_cond rfl (fun hC1 => ?_) (fun hC1 => ?_)
  · (try simp only [nhs] at hC1)
    have hi : i < L.length := by omega
    obtain ⟨w, hwd⟩ : ∃ w, L.getD i [] = w := ⟨_, rfl⟩
    obtain ⟨hw1, hw2⟩ := hw w (hwd ▸ getD_mem' hi)
    have hlen : ((L.take i).map short).length = i := by rw [List.length_map, List.length_take]; omega
    have ha : (L.take (i + 1)).map short = (L.take i).map short ++ [short w] := by
      rw [take_snoc (d := []) hi, List.map_append, hwd]; rfl
    have htk : List.take i (opl (ll ((L.take i).map short))) = opl (ll ((L.take i).map short)) := List.take_of_length_le (by rw [opl_length, ll_length, hlen]; exact Nat.le_refl _)
    refine qh (qa (qm (ql (qm ?_))))
    refine hk_region fun K hK => runs_eval tab_ok ?_
    simp only [ev0, evA, evB, evP, fl, gp, tab, simprocAttr, ll_length, ll_get hi, hwd]
    refine fin_run ?_ (hK _ ?_) <;> clear hK <;> clear K
    · omega
    refine qa ?_
    refine hk_region fun K hK => runs_eval tab_ok ?_
    simp only [ev0, evA, evB, evP, fl, gp, tab, simprocAttr, htk, opl_length, ll_length, hlen]
    refine fin_stop trivial (runs_call (short_c w hw1 (fun x hx => (hw2 x hx).2)) rfl rfl rfl (by simp only [dstOk, Nat.reduceLT]) (by repeat (first | exact trivial | constructor)) (runs_eval tab_ok ?_))
    simp only [ev0, evA, evB, evP, fl, gp, tab, simprocAttr, htk, opl_length, ll_length, hlen]
    refine fin_run ?_ (hK _ ?_) <;> clear hK <;> clear K
    · exact ⟨Nat.le_refl _, by omega, by omega⟩
    refine qd (qa ?_)
    refine hk_region fun K hK => runs_eval tab_ok ?_
    simp only [ev0, evA, evB, evP, fl, gp, tab, simprocAttr]
    refine fin_run ?_ (hK _ ?_) <;> clear hK <;> clear K
    · (first | exact trivial | omega | (simp only [In64] at *; omega) | (simp [In64] at *; omega) | (simp_all; done) | skip)
    refine qa ?_
    refine ⟨i + 1, [1], by omega, by omega, rfl, by decide, ⟨⟨?_, ?_⟩, trivial⟩, rfl, rfl, rfl, rfl, rfl, rfl, rfl, rfl, trivial⟩
    · rw [ha, opl_ren]; exact (List.take_of_length_le (Nat.le_refl _)).symm
    · exact opl_sc _ _
  · (try simp only [nhs] at hC1)
    refine qj (qc (qc (qf (qa (qm ?_)))))
    have hie : i = L.length := by omega
    rw [hie, List.take_length]
    refine hk_sealp 3 0 (ll_all _) (by rw [ll_length, List.length_map]; rfl) rfl ?_
    refine hk_region fun K hK => runs_eval tab_ok ?_
    simp only [ev0, evA, evB, evP, fl, gp, tab, simprocAttr]
    refine fin_run trivial (hK _ ?_) <;> clear hK <;> clear K
    refine qa (qk ?_)
    simp only [Try.results71, enA, ev0, evA, evB, evP, fl, gp, tab, simprocAttr]
    all_goals ((first | exact rfl | exact ⟨rfl, rfl⟩ | exact ⟨rfl, rfl, rfl⟩ | exact ⟨trivial, rfl⟩ | exact ⟨Nat.le_refl _, rfl⟩ | trivial | (simp; done)))
theorem column_c {x : Int} (hx : -1000 ≤ x ∧ x ≤ 1000) : FnC Try.prog 75 [.int .i64 x] (.int .i64 (cI x)) := by
  refine fnc_of tab_ok Try.func75 rfl (by kernel_rfl) (by rw [Try.ntmps75]; exact Nat.le_add_left 1 _) ?_; rw [Try.ntmps75]
  refine qm ?_
  refine hk_region fun K hK => runs_eval tab_ok ?_
  simp only [ev0, evA, evB, evP, fl, gp, tab, simprocAttr]
  refine fin_run trivial (hK _ ?_) <;> clear hK <;> clear K
  refine qa (qm (qm ?_))
  refine hk_region fun K hK => runs_eval tab_ok ?_
  simp only [ev0, evA, evB, evP, fl, gp, tab, simprocAttr]
  refine fin_run trivial (hK _ ?_) <;> clear hK <;> clear K
  refine qa ?_
  refine hk_cond rfl (fun hC1 => ?_) (fun hC1 => ?_)
  · (try simp only [nhs] at hC1)
    have h : 0 < x := by omega
    refine qm ?_
    refine hk_region fun K hK => runs_eval tab_ok ?_
    simp only [ev0, evA, evB, evP, fl, gp, tab, simprocAttr]
    refine fin_run ?_ (hK _ ?_) <;> clear hK <;> clear K
    · (first | exact trivial | omega | (simp only [In64] at *; omega) | (simp [In64] at *; omega) | (simp_all; done) | skip)
    refine qa (qk (qb ?_))
    simp only [Try.results75, enA, ev0, evA, evB, evP, fl, gp, tab, simprocAttr]
    unfold cI
    rw [if_pos h]
    have e : 2 * (x - 1) = 2 * x - 2 := by omega
    rw [e]
  · (try simp only [nhs] at hC1)
    have h : ¬ 0 < x := by omega
    refine qh (qa (qm ?_))
    refine hk_region fun K hK => runs_eval tab_ok ?_
    simp only [ev0, evA, evB, evP, fl, gp, tab, simprocAttr]
    refine fin_run ?_ (hK _ ?_) <;> clear hK <;> clear K
    · (first | exact trivial | omega | (simp only [In64] at *; omega) | (simp [In64] at *; omega) | (simp_all; done) | skip)
    refine qa (qk ?_)
    simp only [Try.results75, enA, ev0, evA, evB, evP, fl, gp, tab, simprocAttr]
    unfold cI
    rw [if_neg h]
    have e : 2 * (-x - 1) + 1 = -2 * x - 1 := by omega
    rw [e]
end Go.Proofs.Ytneglephfhiamaa
