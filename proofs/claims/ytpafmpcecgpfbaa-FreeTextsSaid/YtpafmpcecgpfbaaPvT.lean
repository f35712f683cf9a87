/-
  The types that the walk asks, a row each, checked by the kernel against the program. Conditions: none; a library text, written by a program of this repo.
-/
import Derived.Test.YtpafmpcecgpfbaaProg
import Derived.Test.YtpafmpcecgpfbaaPvP
namespace Go.Proofs.Ytpafmpcecgpfbaa
open Go.Pv

def tab : TypeId → Option TI
  | 1 => some ⟨.other, 1, 8, [.nilFunc], false⟩
  | 2 => some ⟨.int .i64, 1, 8, [.int .i64 0], false⟩
  | 3 => some ⟨.int .i64, 1, 8, [.int .i64 0], false⟩
  | 4 => some ⟨.bool, 1, 1, [.bool false], false⟩
  | 5 => some ⟨.int .u8, 1, 1, [.int .u8 0], false⟩
  | 9 => some ⟨.str, 1, 16, [.string ⟨#[]⟩], false⟩
  | 12 => some ⟨.int .u64, 1, 8, [.int .u64 0], false⟩
  | 21 => some ⟨.int .i32, 1, 4, [.int .i32 0], false⟩
  | 22 => some ⟨.slice 3, 1, 24, [.slice none 0 0], false⟩
  | 25 => some ⟨.struct [(0, 3, 1), (1, 3, 1)], 2, 16, [.int .i64 0, .int .i64 0], true⟩
  | 37 => some ⟨.slice 5, 1, 24, [.slice none 0 0], false⟩
  | 41 => some ⟨.slice 22, 1, 24, [.slice none 0 0], false⟩
  | 50 => some ⟨.int .u32, 1, 4, [.int .u32 0], false⟩
  | _ => none

theorem tab_1 : tiOf Try.prog 1 = some ⟨.other, 1, 8, [.nilFunc], false⟩ := by kernel_rfl
theorem tab_2 : tiOf Try.prog 2 = some ⟨.int .i64, 1, 8, [.int .i64 0], false⟩ := by kernel_rfl
theorem tab_3 : tiOf Try.prog 3 = some ⟨.int .i64, 1, 8, [.int .i64 0], false⟩ := by kernel_rfl
theorem tab_4 : tiOf Try.prog 4 = some ⟨.bool, 1, 1, [.bool false], false⟩ := by kernel_rfl
theorem tab_5 : tiOf Try.prog 5 = some ⟨.int .u8, 1, 1, [.int .u8 0], false⟩ := by kernel_rfl
theorem tab_9 : tiOf Try.prog 9 = some ⟨.str, 1, 16, [.string ⟨#[]⟩], false⟩ := by kernel_rfl
theorem tab_12 : tiOf Try.prog 12 = some ⟨.int .u64, 1, 8, [.int .u64 0], false⟩ := by kernel_rfl
theorem tab_21 : tiOf Try.prog 21 = some ⟨.int .i32, 1, 4, [.int .i32 0], false⟩ := by kernel_rfl
theorem tab_22 : tiOf Try.prog 22 = some ⟨.slice 3, 1, 24, [.slice none 0 0], false⟩ := by kernel_rfl
theorem tab_25 : tiOf Try.prog 25 = some ⟨.struct [(0, 3, 1), (1, 3, 1)], 2, 16, [.int .i64 0, .int .i64 0], true⟩ := by kernel_rfl
theorem tab_37 : tiOf Try.prog 37 = some ⟨.slice 5, 1, 24, [.slice none 0 0], false⟩ := by kernel_rfl
theorem tab_41 : tiOf Try.prog 41 = some ⟨.slice 22, 1, 24, [.slice none 0 0], false⟩ := by kernel_rfl
theorem tab_50 : tiOf Try.prog 50 = some ⟨.int .u32, 1, 4, [.int .u32 0], false⟩ := by kernel_rfl

theorem tab_ok : ∀ t ti, tab t = some ti → tiOf Try.prog t = some ti := by
  intro t ti h
  unfold tab at h
  split at h
  · cases h; exact tab_1
  · cases h; exact tab_2
  · cases h; exact tab_3
  · cases h; exact tab_4
  · cases h; exact tab_5
  · cases h; exact tab_9
  · cases h; exact tab_12
  · cases h; exact tab_21
  · cases h; exact tab_22
  · cases h; exact tab_25
  · cases h; exact tab_37
  · cases h; exact tab_41
  · cases h; exact tab_50
  · cases h

theorem mixed : Try.prog.follows .mixedOrders = true := by kernel_rfl

end Go.Proofs.Ytpafmpcecgpfbaa
