/-
  The types that the walk asks, a row each, checked by the kernel against the program. Conditions: none; a library text, written by a program of this repo.
-/
import Derived.Test.YtjikchbmkodgfaaDoorProg
import Derived.Test.YtjikchbmkodgfaaDoorPvP
namespace Go.Proofs.YtjikchbmkodgfaaDoor
open Go.Pv

def tab : TypeId → Option TI
  | 2 => some ⟨.int .i64, 1, 8, [.int .i64 0], false⟩
  | 3 => some ⟨.int .i64, 1, 8, [.int .i64 0], false⟩
  | 4 => some ⟨.bool, 1, 1, [.bool false], false⟩
  | 5 => some ⟨.int .u8, 1, 1, [.int .u8 0], false⟩
  | 9 => some ⟨.str, 1, 16, [.string ⟨#[]⟩], false⟩
  | 12 => some ⟨.int .u64, 1, 8, [.int .u64 0], false⟩
  | 21 => some ⟨.int .i32, 1, 4, [.int .i32 0], false⟩
  | 22 => some ⟨.slice 3, 1, 24, [.slice none 0 0], false⟩
  | 24 => some ⟨.struct [(0, 3, 1), (1, 22, 1)], 2, 32, [.int .i64 0, .slice none 0 0], false⟩
  | 25 => some ⟨.slice 22, 1, 24, [.slice none 0 0], false⟩
  | 27 => some ⟨.struct [(0, 3, 1), (1, 3, 1)], 2, 16, [.int .i64 0, .int .i64 0], true⟩
  | 42 => some ⟨.other, 1, 8, [.nilFunc], false⟩
  | 52 => some ⟨.other, 1, 8, [.nilFunc], false⟩
  | 58 => some ⟨.other, 1, 8, [.nilFunc], false⟩
  | 68 => some ⟨.slice 71, 1, 24, [.slice none 0 0], false⟩
  | 70 => some ⟨.int .u64, 1, 8, [.int .u64 0], false⟩
  | 71 => some ⟨.int .u64, 1, 8, [.int .u64 0], false⟩
  | 77 => some ⟨.other, 1, 8, [.nilFunc], false⟩
  | 78 => some ⟨.slice 4, 1, 24, [.slice none 0 0], false⟩
  | 84 => some ⟨.map 71 4 (some (.bool false)), 1, 8, [.map none], false⟩
  | 88 => some ⟨.map 3 3 (some (.int .i64 0)), 1, 8, [.map none], false⟩
  | 92 => some ⟨.other, 1, 8, [.nilFunc], false⟩
  | 97 => some ⟨.slice 24, 1, 24, [.slice none 0 0], false⟩
  | 102 => some ⟨.int .u64, 1, 8, [.int .u64 0], false⟩
  | 105 => some ⟨.array 64 5, 64, 64, [.int .u8 0, .int .u8 0, .int .u8 0, .int .u8 0, .int .u8 0, .int .u8 0, .int .u8 0, .int .u8 0, .int .u8 0, .int .u8 0, .int .u8 0, .int .u8 0, .int .u8 0, .int .u8 0, .int .u8 0, .int .u8 0, .int .u8 0, .int .u8 0, .int .u8 0, .int .u8 0, .int .u8 0, .int .u8 0, .int .u8 0, .int .u8 0, .int .u8 0, .int .u8 0, .int .u8 0, .int .u8 0, .int .u8 0, .int .u8 0, .int .u8 0, .int .u8 0, .int .u8 0, .int .u8 0, .int .u8 0, .int .u8 0, .int .u8 0, .int .u8 0, .int .u8 0, .int .u8 0, .int .u8 0, .int .u8 0, .int .u8 0, .int .u8 0, .int .u8 0, .int .u8 0, .int .u8 0, .int .u8 0, .int .u8 0, .int .u8 0, .int .u8 0, .int .u8 0, .int .u8 0, .int .u8 0, .int .u8 0, .int .u8 0, .int .u8 0, .int .u8 0, .int .u8 0, .int .u8 0, .int .u8 0, .int .u8 0, .int .u8 0, .int .u8 0], false⟩
  | 110 => some ⟨.int .i64, 1, 8, [.int .i64 0], false⟩
  | 118 => some ⟨.int .u32, 1, 4, [.int .u32 0], false⟩
  | 125 => some ⟨.int .u64, 1, 8, [.int .u64 0], false⟩
  | _ => none

theorem tab_2 : tiOf Tryd.prog 2 = some ⟨.int .i64, 1, 8, [.int .i64 0], false⟩ := by kernel_rfl
theorem tab_3 : tiOf Tryd.prog 3 = some ⟨.int .i64, 1, 8, [.int .i64 0], false⟩ := by kernel_rfl
theorem tab_4 : tiOf Tryd.prog 4 = some ⟨.bool, 1, 1, [.bool false], false⟩ := by kernel_rfl
theorem tab_5 : tiOf Tryd.prog 5 = some ⟨.int .u8, 1, 1, [.int .u8 0], false⟩ := by kernel_rfl
theorem tab_9 : tiOf Tryd.prog 9 = some ⟨.str, 1, 16, [.string ⟨#[]⟩], false⟩ := by kernel_rfl
theorem tab_12 : tiOf Tryd.prog 12 = some ⟨.int .u64, 1, 8, [.int .u64 0], false⟩ := by kernel_rfl
theorem tab_21 : tiOf Tryd.prog 21 = some ⟨.int .i32, 1, 4, [.int .i32 0], false⟩ := by kernel_rfl
theorem tab_22 : tiOf Tryd.prog 22 = some ⟨.slice 3, 1, 24, [.slice none 0 0], false⟩ := by kernel_rfl
theorem tab_24 : tiOf Tryd.prog 24 = some ⟨.struct [(0, 3, 1), (1, 22, 1)], 2, 32, [.int .i64 0, .slice none 0 0], false⟩ := by kernel_rfl
theorem tab_25 : tiOf Tryd.prog 25 = some ⟨.slice 22, 1, 24, [.slice none 0 0], false⟩ := by kernel_rfl
theorem tab_27 : tiOf Tryd.prog 27 = some ⟨.struct [(0, 3, 1), (1, 3, 1)], 2, 16, [.int .i64 0, .int .i64 0], true⟩ := by kernel_rfl
theorem tab_42 : tiOf Tryd.prog 42 = some ⟨.other, 1, 8, [.nilFunc], false⟩ := by kernel_rfl
theorem tab_52 : tiOf Tryd.prog 52 = some ⟨.other, 1, 8, [.nilFunc], false⟩ := by kernel_rfl
theorem tab_58 : tiOf Tryd.prog 58 = some ⟨.other, 1, 8, [.nilFunc], false⟩ := by kernel_rfl
theorem tab_68 : tiOf Tryd.prog 68 = some ⟨.slice 71, 1, 24, [.slice none 0 0], false⟩ := by kernel_rfl
theorem tab_70 : tiOf Tryd.prog 70 = some ⟨.int .u64, 1, 8, [.int .u64 0], false⟩ := by kernel_rfl
theorem tab_71 : tiOf Tryd.prog 71 = some ⟨.int .u64, 1, 8, [.int .u64 0], false⟩ := by kernel_rfl
theorem tab_77 : tiOf Tryd.prog 77 = some ⟨.other, 1, 8, [.nilFunc], false⟩ := by kernel_rfl
theorem tab_78 : tiOf Tryd.prog 78 = some ⟨.slice 4, 1, 24, [.slice none 0 0], false⟩ := by kernel_rfl
theorem tab_84 : tiOf Tryd.prog 84 = some ⟨.map 71 4 (some (.bool false)), 1, 8, [.map none], false⟩ := by kernel_rfl
theorem tab_88 : tiOf Tryd.prog 88 = some ⟨.map 3 3 (some (.int .i64 0)), 1, 8, [.map none], false⟩ := by kernel_rfl
theorem tab_92 : tiOf Tryd.prog 92 = some ⟨.other, 1, 8, [.nilFunc], false⟩ := by kernel_rfl
theorem tab_97 : tiOf Tryd.prog 97 = some ⟨.slice 24, 1, 24, [.slice none 0 0], false⟩ := by kernel_rfl
theorem tab_102 : tiOf Tryd.prog 102 = some ⟨.int .u64, 1, 8, [.int .u64 0], false⟩ := by kernel_rfl
theorem tab_105 : tiOf Tryd.prog 105 = some ⟨.array 64 5, 64, 64, [.int .u8 0, .int .u8 0, .int .u8 0, .int .u8 0, .int .u8 0, .int .u8 0, .int .u8 0, .int .u8 0, .int .u8 0, .int .u8 0, .int .u8 0, .int .u8 0, .int .u8 0, .int .u8 0, .int .u8 0, .int .u8 0, .int .u8 0, .int .u8 0, .int .u8 0, .int .u8 0, .int .u8 0, .int .u8 0, .int .u8 0, .int .u8 0, .int .u8 0, .int .u8 0, .int .u8 0, .int .u8 0, .int .u8 0, .int .u8 0, .int .u8 0, .int .u8 0, .int .u8 0, .int .u8 0, .int .u8 0, .int .u8 0, .int .u8 0, .int .u8 0, .int .u8 0, .int .u8 0, .int .u8 0, .int .u8 0, .int .u8 0, .int .u8 0, .int .u8 0, .int .u8 0, .int .u8 0, .int .u8 0, .int .u8 0, .int .u8 0, .int .u8 0, .int .u8 0, .int .u8 0, .int .u8 0, .int .u8 0, .int .u8 0, .int .u8 0, .int .u8 0, .int .u8 0, .int .u8 0, .int .u8 0, .int .u8 0, .int .u8 0, .int .u8 0], false⟩ := by kernel_rfl
theorem tab_110 : tiOf Tryd.prog 110 = some ⟨.int .i64, 1, 8, [.int .i64 0], false⟩ := by kernel_rfl
theorem tab_118 : tiOf Tryd.prog 118 = some ⟨.int .u32, 1, 4, [.int .u32 0], false⟩ := by kernel_rfl
theorem tab_125 : tiOf Tryd.prog 125 = some ⟨.int .u64, 1, 8, [.int .u64 0], false⟩ := by kernel_rfl

theorem tab_ok : ∀ t ti, tab t = some ti → tiOf Tryd.prog t = some ti := by
  intro t ti h
  unfold tab at h
  split at h
  · cases h; exact tab_2
  · cases h; exact tab_3
  · cases h; exact tab_4
  · cases h; exact tab_5
  · cases h; exact tab_9
  · cases h; exact tab_12
  · cases h; exact tab_21
  · cases h; exact tab_22
  · cases h; exact tab_24
  · cases h; exact tab_25
  · cases h; exact tab_27
  · cases h; exact tab_42
  · cases h; exact tab_52
  · cases h; exact tab_58
  · cases h; exact tab_68
  · cases h; exact tab_70
  · cases h; exact tab_71
  · cases h; exact tab_77
  · cases h; exact tab_78
  · cases h; exact tab_84
  · cases h; exact tab_88
  · cases h; exact tab_92
  · cases h; exact tab_97
  · cases h; exact tab_102
  · cases h; exact tab_105
  · cases h; exact tab_110
  · cases h; exact tab_118
  · cases h; exact tab_125
  · cases h

theorem mixed : Tryd.prog.follows .mixedOrders = true := by kernel_rfl

end Go.Proofs.YtjikchbmkodgfaaDoor
