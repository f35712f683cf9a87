/-
  The types that the walk asks, a row each, checked by the kernel against the program. Conditions: none; a library text, written by a program of this repo.
-/
import Derived.Test.YthdmioeddgednaaDoorProg
import Derived.Test.YthdmioeddgednaaDoorPvP
namespace Go.Proofs.YthdmioeddgednaaDoor
open Go.Pv

def tab : TypeId → Option TI
  | 2 => some ⟨.int .i64, 1, 8, [.int .i64 0], false⟩
  | 3 => some ⟨.int .i64, 1, 8, [.int .i64 0], false⟩
  | 4 => some ⟨.bool, 1, 1, [.bool false], false⟩
  | 5 => some ⟨.int .u8, 1, 1, [.int .u8 0], false⟩
  | 9 => some ⟨.str, 1, 16, [.string ⟨#[]⟩], false⟩
  | 12 => some ⟨.int .u64, 1, 8, [.int .u64 0], false⟩
  | 21 => some ⟨.int .i32, 1, 4, [.int .i32 0], false⟩
  | 22 => some ⟨.slice 3, 1, 24, [.slice none 0 0], false⟩
  | 24 => some ⟨.struct [(0, 3, 1), (1, 22, 1)], 2, 32, [.int .i64 0, .slice none 0 0], false⟩
  | 27 => some ⟨.struct [(0, 3, 1), (1, 3, 1)], 2, 16, [.int .i64 0, .int .i64 0], true⟩
  | 32 => some ⟨.slice 22, 1, 24, [.slice none 0 0], false⟩
  | 58 => some ⟨.other, 1, 8, [.nilFunc], false⟩
  | 60 => some ⟨.slice 32, 1, 24, [.slice none 0 0], false⟩
  | 68 => some ⟨.int .u64, 1, 8, [.int .u64 0], false⟩
  | 69 => some ⟨.int .u64, 1, 8, [.int .u64 0], false⟩
  | 78 => some ⟨.slice 4, 1, 24, [.slice none 0 0], false⟩
  | 87 => some ⟨.slice 24, 1, 24, [.slice none 0 0], false⟩
  | 89 => some ⟨.other, 1, 8, [.nilFunc], false⟩
  | 92 => some ⟨.other, 1, 8, [.nilFunc], false⟩
  | 97 => some ⟨.other, 1, 8, [.nilFunc], false⟩
  | 100 => some ⟨.other, 1, 8, [.nilFunc], false⟩
  | 102 => some ⟨.map 3 3 (some (.int .i64 0)), 1, 8, [.map none], false⟩
  | 106 => some ⟨.array 64 5, 64, 64, [.int .u8 0, .int .u8 0, .int .u8 0, .int .u8 0, .int .u8 0, .int .u8 0, .int .u8 0, .int .u8 0, .int .u8 0, .int .u8 0, .int .u8 0, .int .u8 0, .int .u8 0, .int .u8 0, .int .u8 0, .int .u8 0, .int .u8 0, .int .u8 0, .int .u8 0, .int .u8 0, .int .u8 0, .int .u8 0, .int .u8 0, .int .u8 0, .int .u8 0, .int .u8 0, .int .u8 0, .int .u8 0, .int .u8 0, .int .u8 0, .int .u8 0, .int .u8 0, .int .u8 0, .int .u8 0, .int .u8 0, .int .u8 0, .int .u8 0, .int .u8 0, .int .u8 0, .int .u8 0, .int .u8 0, .int .u8 0, .int .u8 0, .int .u8 0, .int .u8 0, .int .u8 0, .int .u8 0, .int .u8 0, .int .u8 0, .int .u8 0, .int .u8 0, .int .u8 0, .int .u8 0, .int .u8 0, .int .u8 0, .int .u8 0, .int .u8 0, .int .u8 0, .int .u8 0, .int .u8 0, .int .u8 0, .int .u8 0, .int .u8 0, .int .u8 0], false⟩
  | 107 => some ⟨.int .u64, 1, 8, [.int .u64 0], false⟩
  | 118 => some ⟨.int .u32, 1, 4, [.int .u32 0], false⟩
  | _ => none

theorem tab_2 : tiOf Tryd.prog 2 = some ⟨.int .i64, 1, 8, [.int .i64 0], false⟩ := by kernel_rfl
theorem tab_3 : tiOf Tryd.prog 3 = some ⟨.int .i64, 1, 8, [.int .i64 0], false⟩ := by kernel_rfl
theorem tab_4 : tiOf Tryd.prog 4 = some ⟨.bool, 1, 1, [.bool false], false⟩ := by kernel_rfl
theorem tab_5 : tiOf Tryd.prog 5 = some ⟨.int .u8, 1, 1, [.int .u8 0], false⟩ := by kernel_rfl
theorem tab_9 : tiOf Tryd.prog 9 = some ⟨.str, 1, 16, [.string ⟨#[]⟩], false⟩ := by kernel_rfl
theorem tab_12 : tiOf Tryd.prog 12 = some ⟨.int .u64, 1, 8, [.int .u64 0], false⟩ := by kernel_rfl
theorem tab_21 : tiOf Tryd.prog 21 = some ⟨.int .i32, 1, 4, [.int .i32 0], false⟩ := by kernel_rfl
theorem tab_22 : tiOf Tryd.prog 22 = some ⟨.slice 3, 1, 24, [.slice none 0 0], false⟩ := by kernel_rfl
theorem tab_24 : tiOf Tryd.prog 24 = some ⟨.struct [(0, 3, 1), (1, 22, 1)], 2, 32, [.int .i64 0, .slice none 0 0], false⟩ := by kernel_rfl
theorem tab_27 : tiOf Tryd.prog 27 = some ⟨.struct [(0, 3, 1), (1, 3, 1)], 2, 16, [.int .i64 0, .int .i64 0], true⟩ := by kernel_rfl
theorem tab_32 : tiOf Tryd.prog 32 = some ⟨.slice 22, 1, 24, [.slice none 0 0], false⟩ := by kernel_rfl
theorem tab_58 : tiOf Tryd.prog 58 = some ⟨.other, 1, 8, [.nilFunc], false⟩ := by kernel_rfl
theorem tab_60 : tiOf Tryd.prog 60 = some ⟨.slice 32, 1, 24, [.slice none 0 0], false⟩ := by kernel_rfl
theorem tab_68 : tiOf Tryd.prog 68 = some ⟨.int .u64, 1, 8, [.int .u64 0], false⟩ := by kernel_rfl
theorem tab_69 : tiOf Tryd.prog 69 = some ⟨.int .u64, 1, 8, [.int .u64 0], false⟩ := by kernel_rfl
theorem tab_78 : tiOf Tryd.prog 78 = some ⟨.slice 4, 1, 24, [.slice none 0 0], false⟩ := by kernel_rfl
theorem tab_87 : tiOf Tryd.prog 87 = some ⟨.slice 24, 1, 24, [.slice none 0 0], false⟩ := by kernel_rfl
theorem tab_89 : tiOf Tryd.prog 89 = some ⟨.other, 1, 8, [.nilFunc], false⟩ := by kernel_rfl
theorem tab_92 : tiOf Tryd.prog 92 = some ⟨.other, 1, 8, [.nilFunc], false⟩ := by kernel_rfl
theorem tab_97 : tiOf Tryd.prog 97 = some ⟨.other, 1, 8, [.nilFunc], false⟩ := by kernel_rfl
theorem tab_100 : tiOf Tryd.prog 100 = some ⟨.other, 1, 8, [.nilFunc], false⟩ := by kernel_rfl
theorem tab_102 : tiOf Tryd.prog 102 = some ⟨.map 3 3 (some (.int .i64 0)), 1, 8, [.map none], false⟩ := by kernel_rfl
theorem tab_106 : tiOf Tryd.prog 106 = some ⟨.array 64 5, 64, 64, [.int .u8 0, .int .u8 0, .int .u8 0, .int .u8 0, .int .u8 0, .int .u8 0, .int .u8 0, .int .u8 0, .int .u8 0, .int .u8 0, .int .u8 0, .int .u8 0, .int .u8 0, .int .u8 0, .int .u8 0, .int .u8 0, .int .u8 0, .int .u8 0, .int .u8 0, .int .u8 0, .int .u8 0, .int .u8 0, .int .u8 0, .int .u8 0, .int .u8 0, .int .u8 0, .int .u8 0, .int .u8 0, .int .u8 0, .int .u8 0, .int .u8 0, .int .u8 0, .int .u8 0, .int .u8 0, .int .u8 0, .int .u8 0, .int .u8 0, .int .u8 0, .int .u8 0, .int .u8 0, .int .u8 0, .int .u8 0, .int .u8 0, .int .u8 0, .int .u8 0, .int .u8 0, .int .u8 0, .int .u8 0, .int .u8 0, .int .u8 0, .int .u8 0, .int .u8 0, .int .u8 0, .int .u8 0, .int .u8 0, .int .u8 0, .int .u8 0, .int .u8 0, .int .u8 0, .int .u8 0, .int .u8 0, .int .u8 0, .int .u8 0, .int .u8 0], false⟩ := by kernel_rfl
theorem tab_107 : tiOf Tryd.prog 107 = some ⟨.int .u64, 1, 8, [.int .u64 0], false⟩ := by kernel_rfl
theorem tab_118 : tiOf Tryd.prog 118 = some ⟨.int .u32, 1, 4, [.int .u32 0], false⟩ := by kernel_rfl

theorem tab_ok : ∀ t ti, tab t = some ti → tiOf Tryd.prog t = some ti := by
  intro t ti h
  unfold tab at h
  split at h
  · cases h; exact tab_2
  · cases h; exact tab_3
  · cases h; exact tab_4
  · cases h; exact tab_5
  · cases h; exact tab_9
  · cases h; exact tab_12
  · cases h; exact tab_21
  · cases h; exact tab_22
  · cases h; exact tab_24
  · cases h; exact tab_27
  · cases h; exact tab_32
  · cases h; exact tab_58
  · cases h; exact tab_60
  · cases h; exact tab_68
  · cases h; exact tab_69
  · cases h; exact tab_78
  · cases h; exact tab_87
  · cases h; exact tab_89
  · cases h; exact tab_92
  · cases h; exact tab_97
  · cases h; exact tab_100
  · cases h; exact tab_102
  · cases h; exact tab_106
  · cases h; exact tab_107
  · cases h; exact tab_118
  · cases h

theorem mixed : Tryd.prog.follows .mixedOrders = true := by kernel_rfl

end Go.Proofs.YthdmioeddgednaaDoor
