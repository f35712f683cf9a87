/-
  The types that the walk asks, a row each, checked by the kernel against the program. Conditions: none; a library text, written by a program of this repo.
-/
import Derived.Test.YtllompejbfbabaaDoorProg
import Derived.Test.YtllompejbfbabaaDoorPvP
namespace Go.Proofs.YtllompejbfbabaaDoor
open Go.Pv

def tab : TypeId → Option TI
  | 2 => some ⟨.int .i64, 1, 8, [.int .i64 0], false⟩
  | 3 => some ⟨.int .i64, 1, 8, [.int .i64 0], false⟩
  | 4 => some ⟨.bool, 1, 1, [.bool false], false⟩
  | 5 => some ⟨.int .u8, 1, 1, [.int .u8 0], false⟩
  | 9 => some ⟨.str, 1, 16, [.string ⟨#[]⟩], false⟩
  | 12 => some ⟨.int .u64, 1, 8, [.int .u64 0], false⟩
  | 21 => some ⟨.int .i32, 1, 4, [.int .i32 0], false⟩
  | 22 => some ⟨.slice 3, 1, 24, [.slice none 0 0], false⟩
  | 24 => some ⟨.struct [(0, 3, 1), (1, 22, 1)], 2, 32, [.int .i64 0, .slice none 0 0], false⟩
  | 25 => some ⟨.slice 32, 1, 24, [.slice none 0 0], false⟩
  | 27 => some ⟨.struct [(0, 3, 1), (1, 3, 1)], 2, 16, [.int .i64 0, .int .i64 0], true⟩
  | 32 => some ⟨.slice 22, 1, 24, [.slice none 0 0], false⟩
  | 48 => some ⟨.other, 1, 8, [.nilFunc], false⟩
  | 50 => some ⟨.other, 1, 8, [.nilFunc], false⟩
  | 53 => some ⟨.other, 1, 8, [.nilFunc], false⟩
  | 56 => some ⟨.other, 1, 8, [.nilFunc], false⟩
  | 62 => some ⟨.other, 1, 8, [.nilFunc], false⟩
  | 72 => some ⟨.other, 1, 8, [.nilFunc], false⟩
  | 77 => some ⟨.other, 1, 8, [.nilFunc], false⟩
  | 82 => some ⟨.int .u64, 1, 8, [.int .u64 0], false⟩
  | 83 => some ⟨.int .u64, 1, 8, [.int .u64 0], false⟩
  | 86 => some ⟨.slice 4, 1, 24, [.slice none 0 0], false⟩
  | 91 => some ⟨.array 64 5, 64, 64, [.int .u8 0, .int .u8 0, .int .u8 0, .int .u8 0, .int .u8 0, .int .u8 0, .int .u8 0, .int .u8 0, .int .u8 0, .int .u8 0, .int .u8 0, .int .u8 0, .int .u8 0, .int .u8 0, .int .u8 0, .int .u8 0, .int .u8 0, .int .u8 0, .int .u8 0, .int .u8 0, .int .u8 0, .int .u8 0, .int .u8 0, .int .u8 0, .int .u8 0, .int .u8 0, .int .u8 0, .int .u8 0, .int .u8 0, .int .u8 0, .int .u8 0, .int .u8 0, .int .u8 0, .int .u8 0, .int .u8 0, .int .u8 0, .int .u8 0, .int .u8 0, .int .u8 0, .int .u8 0, .int .u8 0, .int .u8 0, .int .u8 0, .int .u8 0, .int .u8 0, .int .u8 0, .int .u8 0, .int .u8 0, .int .u8 0, .int .u8 0, .int .u8 0, .int .u8 0, .int .u8 0, .int .u8 0, .int .u8 0, .int .u8 0, .int .u8 0, .int .u8 0, .int .u8 0, .int .u8 0, .int .u8 0, .int .u8 0, .int .u8 0, .int .u8 0], false⟩
  | 92 => some ⟨.int .u64, 1, 8, [.int .u64 0], false⟩
  | 99 => some ⟨.int .u32, 1, 4, [.int .u32 0], false⟩
  | _ => none

theorem tab_2 : tiOf Tryd.prog 2 = some ⟨.int .i64, 1, 8, [.int .i64 0], false⟩ := by kernel_rfl
theorem tab_3 : tiOf Tryd.prog 3 = some ⟨.int .i64, 1, 8, [.int .i64 0], false⟩ := by kernel_rfl
theorem tab_4 : tiOf Tryd.prog 4 = some ⟨.bool, 1, 1, [.bool false], false⟩ := by kernel_rfl
theorem tab_5 : tiOf Tryd.prog 5 = some ⟨.int .u8, 1, 1, [.int .u8 0], false⟩ := by kernel_rfl
theorem tab_9 : tiOf Tryd.prog 9 = some ⟨.str, 1, 16, [.string ⟨#[]⟩], false⟩ := by kernel_rfl
theorem tab_12 : tiOf Tryd.prog 12 = some ⟨.int .u64, 1, 8, [.int .u64 0], false⟩ := by kernel_rfl
theorem tab_21 : tiOf Tryd.prog 21 = some ⟨.int .i32, 1, 4, [.int .i32 0], false⟩ := by kernel_rfl
theorem tab_22 : tiOf Tryd.prog 22 = some ⟨.slice 3, 1, 24, [.slice none 0 0], false⟩ := by kernel_rfl
theorem tab_24 : tiOf Tryd.prog 24 = some ⟨.struct [(0, 3, 1), (1, 22, 1)], 2, 32, [.int .i64 0, .slice none 0 0], false⟩ := by kernel_rfl
theorem tab_25 : tiOf Tryd.prog 25 = some ⟨.slice 32, 1, 24, [.slice none 0 0], false⟩ := by kernel_rfl
theorem tab_27 : tiOf Tryd.prog 27 = some ⟨.struct [(0, 3, 1), (1, 3, 1)], 2, 16, [.int .i64 0, .int .i64 0], true⟩ := by kernel_rfl
theorem tab_32 : tiOf Tryd.prog 32 = some ⟨.slice 22, 1, 24, [.slice none 0 0], false⟩ := by kernel_rfl
theorem tab_48 : tiOf Tryd.prog 48 = some ⟨.other, 1, 8, [.nilFunc], false⟩ := by kernel_rfl
theorem tab_50 : tiOf Tryd.prog 50 = some ⟨.other, 1, 8, [.nilFunc], false⟩ := by kernel_rfl
theorem tab_53 : tiOf Tryd.prog 53 = some ⟨.other, 1, 8, [.nilFunc], false⟩ := by kernel_rfl
theorem tab_56 : tiOf Tryd.prog 56 = some ⟨.other, 1, 8, [.nilFunc], false⟩ := by kernel_rfl
theorem tab_62 : tiOf Tryd.prog 62 = some ⟨.other, 1, 8, [.nilFunc], false⟩ := by kernel_rfl
theorem tab_72 : tiOf Tryd.prog 72 = some ⟨.other, 1, 8, [.nilFunc], false⟩ := by kernel_rfl
theorem tab_77 : tiOf Tryd.prog 77 = some ⟨.other, 1, 8, [.nilFunc], false⟩ := by kernel_rfl
theorem tab_82 : tiOf Tryd.prog 82 = some ⟨.int .u64, 1, 8, [.int .u64 0], false⟩ := by kernel_rfl
theorem tab_83 : tiOf Tryd.prog 83 = some ⟨.int .u64, 1, 8, [.int .u64 0], false⟩ := by kernel_rfl
theorem tab_86 : tiOf Tryd.prog 86 = some ⟨.slice 4, 1, 24, [.slice none 0 0], false⟩ := by kernel_rfl
theorem tab_91 : tiOf Tryd.prog 91 = some ⟨.array 64 5, 64, 64, [.int .u8 0, .int .u8 0, .int .u8 0, .int .u8 0, .int .u8 0, .int .u8 0, .int .u8 0, .int .u8 0, .int .u8 0, .int .u8 0, .int .u8 0, .int .u8 0, .int .u8 0, .int .u8 0, .int .u8 0, .int .u8 0, .int .u8 0, .int .u8 0, .int .u8 0, .int .u8 0, .int .u8 0, .int .u8 0, .int .u8 0, .int .u8 0, .int .u8 0, .int .u8 0, .int .u8 0, .int .u8 0, .int .u8 0, .int .u8 0, .int .u8 0, .int .u8 0, .int .u8 0, .int .u8 0, .int .u8 0, .int .u8 0, .int .u8 0, .int .u8 0, .int .u8 0, .int .u8 0, .int .u8 0, .int .u8 0, .int .u8 0, .int .u8 0, .int .u8 0, .int .u8 0, .int .u8 0, .int .u8 0, .int .u8 0, .int .u8 0, .int .u8 0, .int .u8 0, .int .u8 0, .int .u8 0, .int .u8 0, .int .u8 0, .int .u8 0, .int .u8 0, .int .u8 0, .int .u8 0, .int .u8 0, .int .u8 0, .int .u8 0, .int .u8 0], false⟩ := by kernel_rfl
theorem tab_92 : tiOf Tryd.prog 92 = some ⟨.int .u64, 1, 8, [.int .u64 0], false⟩ := by kernel_rfl
theorem tab_99 : tiOf Tryd.prog 99 = some ⟨.int .u32, 1, 4, [.int .u32 0], false⟩ := by kernel_rfl

theorem tab_ok : ∀ t ti, tab t = some ti → tiOf Tryd.prog t = some ti := by
  intro t ti h
  unfold tab at h
  split at h
  · cases h; exact tab_2
  · cases h; exact tab_3
  · cases h; exact tab_4
  · cases h; exact tab_5
  · cases h; exact tab_9
  · cases h; exact tab_12
  · cases h; exact tab_21
  · cases h; exact tab_22
  · cases h; exact tab_24
  · cases h; exact tab_25
  · cases h; exact tab_27
  · cases h; exact tab_32
  · cases h; exact tab_48
  · cases h; exact tab_50
  · cases h; exact tab_53
  · cases h; exact tab_56
  · cases h; exact tab_62
  · cases h; exact tab_72
  · cases h; exact tab_77
  · cases h; exact tab_82
  · cases h; exact tab_83
  · cases h; exact tab_86
  · cases h; exact tab_91
  · cases h; exact tab_92
  · cases h; exact tab_99
  · cases h

theorem mixed : Tryd.prog.follows .mixedOrders = true := by kernel_rfl

end Go.Proofs.YtllompejbfbabaaDoor
