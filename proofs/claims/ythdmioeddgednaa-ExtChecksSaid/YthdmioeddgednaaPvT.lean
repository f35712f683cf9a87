/-
  The types that the walk asks, a row each, checked by the kernel against the program. Conditions: none; a library text, written by a program of this repo.
-/
import Derived.Test.YthdmioeddgednaaProg
import Derived.Test.YthdmioeddgednaaPvP
namespace Go.Proofs.Ythdmioeddgednaa
open Go.Pv

def tab : TypeId → Option TI
  | 2 => some ⟨.int .i64, 1, 8, [.int .i64 0], false⟩
  | 3 => some ⟨.int .i64, 1, 8, [.int .i64 0], false⟩
  | 4 => some ⟨.bool, 1, 1, [.bool false], false⟩
  | 5 => some ⟨.int .u8, 1, 1, [.int .u8 0], false⟩
  | 9 => some ⟨.str, 1, 16, [.string ⟨#[]⟩], false⟩
  | 12 => some ⟨.int .u64, 1, 8, [.int .u64 0], false⟩
  | 21 => some ⟨.int .i32, 1, 4, [.int .i32 0], false⟩
  | 22 => some ⟨.slice 3, 1, 24, [.slice none 0 0], false⟩
  | 24 => some ⟨.struct [(0, 3, 1), (1, 22, 1)], 2, 32, [.int .i64 0, .slice none 0 0], false⟩
  | 26 => some ⟨.array 3 3, 3, 24, [.int .i64 0, .int .i64 0, .int .i64 0], false⟩
  | 28 => some ⟨.struct [(0, 3, 1), (1, 3, 1)], 2, 16, [.int .i64 0, .int .i64 0], true⟩
  | 49 => some ⟨.other, 1, 8, [.nilFunc], false⟩
  | 57 => some ⟨.map 3 22 (some (.slice none 0 0)), 1, 8, [.map none], false⟩
  | 59 => some ⟨.struct [(0, 3, 1), (1, 57, 1)], 2, 16, [.int .i64 0, .map none], false⟩
  | 61 => some ⟨.slice 22, 1, 24, [.slice none 0 0], false⟩
  | 62 => some ⟨.other, 1, 8, [.nilFunc], false⟩
  | 66 => some ⟨.slice 4, 1, 24, [.slice none 0 0], false⟩
  | 74 => some ⟨.other, 1, 8, [.nilFunc], false⟩
  | 82 => some ⟨.int .u32, 1, 4, [.int .u32 0], false⟩
  | _ => none

theorem tab_2 : tiOf Try.prog 2 = some ⟨.int .i64, 1, 8, [.int .i64 0], false⟩ := by kernel_rfl
theorem tab_3 : tiOf Try.prog 3 = some ⟨.int .i64, 1, 8, [.int .i64 0], false⟩ := by kernel_rfl
theorem tab_4 : tiOf Try.prog 4 = some ⟨.bool, 1, 1, [.bool false], false⟩ := by kernel_rfl
theorem tab_5 : tiOf Try.prog 5 = some ⟨.int .u8, 1, 1, [.int .u8 0], false⟩ := by kernel_rfl
theorem tab_9 : tiOf Try.prog 9 = some ⟨.str, 1, 16, [.string ⟨#[]⟩], false⟩ := by kernel_rfl
theorem tab_12 : tiOf Try.prog 12 = some ⟨.int .u64, 1, 8, [.int .u64 0], false⟩ := by kernel_rfl
theorem tab_21 : tiOf Try.prog 21 = some ⟨.int .i32, 1, 4, [.int .i32 0], false⟩ := by kernel_rfl
theorem tab_22 : tiOf Try.prog 22 = some ⟨.slice 3, 1, 24, [.slice none 0 0], false⟩ := by kernel_rfl
theorem tab_24 : tiOf Try.prog 24 = some ⟨.struct [(0, 3, 1), (1, 22, 1)], 2, 32, [.int .i64 0, .slice none 0 0], false⟩ := by kernel_rfl
theorem tab_26 : tiOf Try.prog 26 = some ⟨.array 3 3, 3, 24, [.int .i64 0, .int .i64 0, .int .i64 0], false⟩ := by kernel_rfl
theorem tab_28 : tiOf Try.prog 28 = some ⟨.struct [(0, 3, 1), (1, 3, 1)], 2, 16, [.int .i64 0, .int .i64 0], true⟩ := by kernel_rfl
theorem tab_49 : tiOf Try.prog 49 = some ⟨.other, 1, 8, [.nilFunc], false⟩ := by kernel_rfl
theorem tab_57 : tiOf Try.prog 57 = some ⟨.map 3 22 (some (.slice none 0 0)), 1, 8, [.map none], false⟩ := by kernel_rfl
theorem tab_59 : tiOf Try.prog 59 = some ⟨.struct [(0, 3, 1), (1, 57, 1)], 2, 16, [.int .i64 0, .map none], false⟩ := by kernel_rfl
theorem tab_61 : tiOf Try.prog 61 = some ⟨.slice 22, 1, 24, [.slice none 0 0], false⟩ := by kernel_rfl
theorem tab_62 : tiOf Try.prog 62 = some ⟨.other, 1, 8, [.nilFunc], false⟩ := by kernel_rfl
theorem tab_66 : tiOf Try.prog 66 = some ⟨.slice 4, 1, 24, [.slice none 0 0], false⟩ := by kernel_rfl
theorem tab_74 : tiOf Try.prog 74 = some ⟨.other, 1, 8, [.nilFunc], false⟩ := by kernel_rfl
theorem tab_82 : tiOf Try.prog 82 = some ⟨.int .u32, 1, 4, [.int .u32 0], false⟩ := by kernel_rfl

theorem tab_ok : ∀ t ti, tab t = some ti → tiOf Try.prog t = some ti := by
  intro t ti h
  unfold tab at h
  split at h
  · cases h; exact tab_2
  · cases h; exact tab_3
  · cases h; exact tab_4
  · cases h; exact tab_5
  · cases h; exact tab_9
  · cases h; exact tab_12
  · cases h; exact tab_21
  · cases h; exact tab_22
  · cases h; exact tab_24
  · cases h; exact tab_26
  · cases h; exact tab_28
  · cases h; exact tab_49
  · cases h; exact tab_57
  · cases h; exact tab_59
  · cases h; exact tab_61
  · cases h; exact tab_62
  · cases h; exact tab_66
  · cases h; exact tab_74
  · cases h; exact tab_82
  · cases h

theorem mixed : Try.prog.follows .mixedOrders = true := by kernel_rfl

end Go.Proofs.Ythdmioeddgednaa
