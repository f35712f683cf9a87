/-
  The types that the walk asks, a row each, checked by the kernel against the program. Conditions: none; a library text, written by a program of this repo.
-/
import Derived.Test.YtllompejbfbabaaDoorProg
import Derived.Test.YtllompejbfbabaaDoorPvP
namespace Go.Proofs.YtllompejbfbabaaDoor
open Go.Pv

def tab : TypeId → Option TI
  | 1 => some ⟨.other, 1, 8, [.nilFunc], false⟩
  | 2 => some ⟨.int .i64, 1, 8, [.int .i64 0], false⟩
  | 3 => some ⟨.int .i64, 1, 8, [.int .i64 0], false⟩
  | 4 => some ⟨.bool, 1, 1, [.bool false], false⟩
  | 5 => some ⟨.int .u8, 1, 1, [.int .u8 0], false⟩
  | 9 => some ⟨.str, 1, 16, [.string ⟨#[]⟩], false⟩
  | 12 => some ⟨.int .u64, 1, 8, [.int .u64 0], false⟩
  | 21 => some ⟨.int .i32, 1, 4, [.int .i32 0], false⟩
  | 22 => some ⟨.slice 3, 1, 24, [.slice none 0 0], false⟩
  | 24 => some ⟨.struct [(0, 3, 1), (1, 22, 1)], 2, 32, [.int .i64 0, .slice none 0 0], false⟩
  | 25 => some ⟨.slice 32, 1, 24, [.slice none 0 0], false⟩
  | 27 => some ⟨.struct [(0, 3, 1), (1, 3, 1)], 2, 16, [.int .i64 0, .int .i64 0], true⟩
  | 29 => some ⟨.other, 1, 8, [.nilFunc], false⟩
  | 30 => some ⟨.other, 1, 8, [.nilFunc], false⟩
  | 31 => some ⟨.other, 1, 8, [.nilFunc], false⟩
  | 32 => some ⟨.slice 22, 1, 24, [.slice none 0 0], false⟩
  | 33 => some ⟨.other, 1, 8, [.nilFunc], false⟩
  | 34 => some ⟨.other, 1, 8, [.nilFunc], false⟩
  | 35 => some ⟨.other, 1, 8, [.nilFunc], false⟩
  | 36 => some ⟨.other, 1, 8, [.nilFunc], false⟩
  | 37 => some ⟨.other, 1, 8, [.nilFunc], false⟩
  | 38 => some ⟨.other, 1, 8, [.nilFunc], false⟩
  | 40 => some ⟨.other, 1, 8, [.nilFunc], false⟩
  | 41 => some ⟨.other, 1, 8, [.nilFunc], false⟩
  | 43 => some ⟨.other, 1, 8, [.nilFunc], false⟩
  | 45 => some ⟨.other, 1, 8, [.nilFunc], false⟩
  | 46 => some ⟨.other, 1, 8, [.nilFunc], false⟩
  | 47 => some ⟨.other, 1, 8, [.nilFunc], false⟩
  | 48 => some ⟨.other, 1, 8, [.nilFunc], false⟩
  | 49 => some ⟨.other, 1, 8, [.nilFunc], false⟩
  | 50 => some ⟨.other, 1, 8, [.nilFunc], false⟩
  | 51 => some ⟨.other, 1, 8, [.nilFunc], false⟩
  | 52 => some ⟨.other, 1, 8, [.nilFunc], false⟩
  | 53 => some ⟨.other, 1, 8, [.nilFunc], false⟩
  | 54 => some ⟨.other, 1, 8, [.nilFunc], false⟩
  | 55 => some ⟨.other, 1, 8, [.nilFunc], false⟩
  | 56 => some ⟨.other, 1, 8, [.nilFunc], false⟩
  | 57 => some ⟨.other, 1, 8, [.nilFunc], false⟩
  | 58 => some ⟨.other, 1, 8, [.nilFunc], false⟩
  | 59 => some ⟨.other, 1, 8, [.nilFunc], false⟩
  | 60 => some ⟨.other, 1, 8, [.nilFunc], false⟩
  | 61 => some ⟨.other, 1, 8, [.nilFunc], false⟩
  | 62 => some ⟨.other, 1, 8, [.nilFunc], false⟩
  | 63 => some ⟨.other, 1, 8, [.nilFunc], false⟩
  | 64 => some ⟨.other, 1, 8, [.nilFunc], false⟩
  | 66 => some ⟨.other, 1, 8, [.nilFunc], false⟩
  | 67 => some ⟨.other, 1, 8, [.nilFunc], false⟩
  | 68 => some ⟨.other, 1, 8, [.nilFunc], false⟩
  | 69 => some ⟨.other, 1, 8, [.nilFunc], false⟩
  | 70 => some ⟨.other, 1, 8, [.nilFunc], false⟩
  | 71 => some ⟨.other, 1, 8, [.nilFunc], false⟩
  | 72 => some ⟨.other, 1, 8, [.nilFunc], false⟩
  | 73 => some ⟨.other, 1, 8, [.nilFunc], false⟩
  | 74 => some ⟨.other, 1, 8, [.nilFunc], false⟩
  | 75 => some ⟨.other, 1, 8, [.nilFunc], false⟩
  | 76 => some ⟨.other, 1, 8, [.nilFunc], false⟩
  | 77 => some ⟨.other, 1, 8, [.nilFunc], false⟩
  | 78 => some ⟨.other, 1, 8, [.nilFunc], false⟩
  | 79 => some ⟨.other, 1, 8, [.nilFunc], false⟩
  | 80 => some ⟨.other, 1, 8, [.nilFunc], false⟩
  | 81 => some ⟨.other, 1, 8, [.nilFunc], false⟩
  | 82 => some ⟨.int .u64, 1, 8, [.int .u64 0], false⟩
  | 83 => some ⟨.int .u64, 1, 8, [.int .u64 0], false⟩
  | 84 => some ⟨.other, 1, 8, [.nilFunc], false⟩
  | 85 => some ⟨.other, 1, 8, [.nilFunc], false⟩
  | 86 => some ⟨.slice 4, 1, 24, [.slice none 0 0], false⟩
  | 87 => some ⟨.other, 1, 8, [.nilFunc], false⟩
  | 88 => some ⟨.other, 1, 8, [.nilFunc], false⟩
  | 89 => some ⟨.other, 1, 8, [.nilFunc], false⟩
  | 90 => some ⟨.other, 1, 8, [.nilFunc], false⟩
  | 91 => some ⟨.array 64 5, 64, 64, [.int .u8 0, .int .u8 0, .int .u8 0, .int .u8 0, .int .u8 0, .int .u8 0, .int .u8 0, .int .u8 0, .int .u8 0, .int .u8 0, .int .u8 0, .int .u8 0, .int .u8 0, .int .u8 0, .int .u8 0, .int .u8 0, .int .u8 0, .int .u8 0, .int .u8 0, .int .u8 0, .int .u8 0, .int .u8 0, .int .u8 0, .int .u8 0, .int .u8 0, .int .u8 0, .int .u8 0, .int .u8 0, .int .u8 0, .int .u8 0, .int .u8 0, .int .u8 0, .int .u8 0, .int .u8 0, .int .u8 0, .int .u8 0, .int .u8 0, .int .u8 0, .int .u8 0, .int .u8 0, .int .u8 0, .int .u8 0, .int .u8 0, .int .u8 0, .int .u8 0, .int .u8 0, .int .u8 0, .int .u8 0, .int .u8 0, .int .u8 0, .int .u8 0, .int .u8 0, .int .u8 0, .int .u8 0, .int .u8 0, .int .u8 0, .int .u8 0, .int .u8 0, .int .u8 0, .int .u8 0, .int .u8 0, .int .u8 0, .int .u8 0, .int .u8 0], false⟩
  | 92 => some ⟨.int .u64, 1, 8, [.int .u64 0], false⟩
  | 93 => some ⟨.other, 1, 8, [.nilFunc], false⟩
  | 99 => some ⟨.int .u32, 1, 4, [.int .u32 0], false⟩
  | 102 => some ⟨.other, 1, 8, [.nilFunc], false⟩
  | _ => none

theorem tab_1 : tiOf Tryd.prog 1 = some ⟨.other, 1, 8, [.nilFunc], false⟩ := by kernel_rfl
theorem tab_2 : tiOf Tryd.prog 2 = some ⟨.int .i64, 1, 8, [.int .i64 0], false⟩ := by kernel_rfl
theorem tab_3 : tiOf Tryd.prog 3 = some ⟨.int .i64, 1, 8, [.int .i64 0], false⟩ := by kernel_rfl
theorem tab_4 : tiOf Tryd.prog 4 = some ⟨.bool, 1, 1, [.bool false], false⟩ := by kernel_rfl
theorem tab_5 : tiOf Tryd.prog 5 = some ⟨.int .u8, 1, 1, [.int .u8 0], false⟩ := by kernel_rfl
theorem tab_9 : tiOf Tryd.prog 9 = some ⟨.str, 1, 16, [.string ⟨#[]⟩], false⟩ := by kernel_rfl
theorem tab_12 : tiOf Tryd.prog 12 = some ⟨.int .u64, 1, 8, [.int .u64 0], false⟩ := by kernel_rfl
theorem tab_21 : tiOf Tryd.prog 21 = some ⟨.int .i32, 1, 4, [.int .i32 0], false⟩ := by kernel_rfl
theorem tab_22 : tiOf Tryd.prog 22 = some ⟨.slice 3, 1, 24, [.slice none 0 0], false⟩ := by kernel_rfl
theorem tab_24 : tiOf Tryd.prog 24 = some ⟨.struct [(0, 3, 1), (1, 22, 1)], 2, 32, [.int .i64 0, .slice none 0 0], false⟩ := by kernel_rfl
theorem tab_25 : tiOf Tryd.prog 25 = some ⟨.slice 32, 1, 24, [.slice none 0 0], false⟩ := by kernel_rfl
theorem tab_27 : tiOf Tryd.prog 27 = some ⟨.struct [(0, 3, 1), (1, 3, 1)], 2, 16, [.int .i64 0, .int .i64 0], true⟩ := by kernel_rfl
theorem tab_29 : tiOf Tryd.prog 29 = some ⟨.other, 1, 8, [.nilFunc], false⟩ := by kernel_rfl
theorem tab_30 : tiOf Tryd.prog 30 = some ⟨.other, 1, 8, [.nilFunc], false⟩ := by kernel_rfl
theorem tab_31 : tiOf Tryd.prog 31 = some ⟨.other, 1, 8, [.nilFunc], false⟩ := by kernel_rfl
theorem tab_32 : tiOf Tryd.prog 32 = some ⟨.slice 22, 1, 24, [.slice none 0 0], false⟩ := by kernel_rfl
theorem tab_33 : tiOf Tryd.prog 33 = some ⟨.other, 1, 8, [.nilFunc], false⟩ := by kernel_rfl
theorem tab_34 : tiOf Tryd.prog 34 = some ⟨.other, 1, 8, [.nilFunc], false⟩ := by kernel_rfl
theorem tab_35 : tiOf Tryd.prog 35 = some ⟨.other, 1, 8, [.nilFunc], false⟩ := by kernel_rfl
theorem tab_36 : tiOf Tryd.prog 36 = some ⟨.other, 1, 8, [.nilFunc], false⟩ := by kernel_rfl
theorem tab_37 : tiOf Tryd.prog 37 = some ⟨.other, 1, 8, [.nilFunc], false⟩ := by kernel_rfl
theorem tab_38 : tiOf Tryd.prog 38 = some ⟨.other, 1, 8, [.nilFunc], false⟩ := by kernel_rfl
theorem tab_40 : tiOf Tryd.prog 40 = some ⟨.other, 1, 8, [.nilFunc], false⟩ := by kernel_rfl
theorem tab_41 : tiOf Tryd.prog 41 = some ⟨.other, 1, 8, [.nilFunc], false⟩ := by kernel_rfl
theorem tab_43 : tiOf Tryd.prog 43 = some ⟨.other, 1, 8, [.nilFunc], false⟩ := by kernel_rfl
theorem tab_45 : tiOf Tryd.prog 45 = some ⟨.other, 1, 8, [.nilFunc], false⟩ := by kernel_rfl
theorem tab_46 : tiOf Tryd.prog 46 = some ⟨.other, 1, 8, [.nilFunc], false⟩ := by kernel_rfl
theorem tab_47 : tiOf Tryd.prog 47 = some ⟨.other, 1, 8, [.nilFunc], false⟩ := by kernel_rfl
theorem tab_48 : tiOf Tryd.prog 48 = some ⟨.other, 1, 8, [.nilFunc], false⟩ := by kernel_rfl
theorem tab_49 : tiOf Tryd.prog 49 = some ⟨.other, 1, 8, [.nilFunc], false⟩ := by kernel_rfl
theorem tab_50 : tiOf Tryd.prog 50 = some ⟨.other, 1, 8, [.nilFunc], false⟩ := by kernel_rfl
theorem tab_51 : tiOf Tryd.prog 51 = some ⟨.other, 1, 8, [.nilFunc], false⟩ := by kernel_rfl
theorem tab_52 : tiOf Tryd.prog 52 = some ⟨.other, 1, 8, [.nilFunc], false⟩ := by kernel_rfl
theorem tab_53 : tiOf Tryd.prog 53 = some ⟨.other, 1, 8, [.nilFunc], false⟩ := by kernel_rfl
theorem tab_54 : tiOf Tryd.prog 54 = some ⟨.other, 1, 8, [.nilFunc], false⟩ := by kernel_rfl
theorem tab_55 : tiOf Tryd.prog 55 = some ⟨.other, 1, 8, [.nilFunc], false⟩ := by kernel_rfl
theorem tab_56 : tiOf Tryd.prog 56 = some ⟨.other, 1, 8, [.nilFunc], false⟩ := by kernel_rfl
theorem tab_57 : tiOf Tryd.prog 57 = some ⟨.other, 1, 8, [.nilFunc], false⟩ := by kernel_rfl
theorem tab_58 : tiOf Tryd.prog 58 = some ⟨.other, 1, 8, [.nilFunc], false⟩ := by kernel_rfl
theorem tab_59 : tiOf Tryd.prog 59 = some ⟨.other, 1, 8, [.nilFunc], false⟩ := by kernel_rfl
theorem tab_60 : tiOf Tryd.prog 60 = some ⟨.other, 1, 8, [.nilFunc], false⟩ := by kernel_rfl
theorem tab_61 : tiOf Tryd.prog 61 = some ⟨.other, 1, 8, [.nilFunc], false⟩ := by kernel_rfl
theorem tab_62 : tiOf Tryd.prog 62 = some ⟨.other, 1, 8, [.nilFunc], false⟩ := by kernel_rfl
theorem tab_63 : tiOf Tryd.prog 63 = some ⟨.other, 1, 8, [.nilFunc], false⟩ := by kernel_rfl
theorem tab_64 : tiOf Tryd.prog 64 = some ⟨.other, 1, 8, [.nilFunc], false⟩ := by kernel_rfl
theorem tab_66 : tiOf Tryd.prog 66 = some ⟨.other, 1, 8, [.nilFunc], false⟩ := by kernel_rfl
theorem tab_67 : tiOf Tryd.prog 67 = some ⟨.other, 1, 8, [.nilFunc], false⟩ := by kernel_rfl
theorem tab_68 : tiOf Tryd.prog 68 = some ⟨.other, 1, 8, [.nilFunc], false⟩ := by kernel_rfl
theorem tab_69 : tiOf Tryd.prog 69 = some ⟨.other, 1, 8, [.nilFunc], false⟩ := by kernel_rfl
theorem tab_70 : tiOf Tryd.prog 70 = some ⟨.other, 1, 8, [.nilFunc], false⟩ := by kernel_rfl
theorem tab_71 : tiOf Tryd.prog 71 = some ⟨.other, 1, 8, [.nilFunc], false⟩ := by kernel_rfl
theorem tab_72 : tiOf Tryd.prog 72 = some ⟨.other, 1, 8, [.nilFunc], false⟩ := by kernel_rfl
theorem tab_73 : tiOf Tryd.prog 73 = some ⟨.other, 1, 8, [.nilFunc], false⟩ := by kernel_rfl
theorem tab_74 : tiOf Tryd.prog 74 = some ⟨.other, 1, 8, [.nilFunc], false⟩ := by kernel_rfl
theorem tab_75 : tiOf Tryd.prog 75 = some ⟨.other, 1, 8, [.nilFunc], false⟩ := by kernel_rfl
theorem tab_76 : tiOf Tryd.prog 76 = some ⟨.other, 1, 8, [.nilFunc], false⟩ := by kernel_rfl
theorem tab_77 : tiOf Tryd.prog 77 = some ⟨.other, 1, 8, [.nilFunc], false⟩ := by kernel_rfl
theorem tab_78 : tiOf Tryd.prog 78 = some ⟨.other, 1, 8, [.nilFunc], false⟩ := by kernel_rfl
theorem tab_79 : tiOf Tryd.prog 79 = some ⟨.other, 1, 8, [.nilFunc], false⟩ := by kernel_rfl
theorem tab_80 : tiOf Tryd.prog 80 = some ⟨.other, 1, 8, [.nilFunc], false⟩ := by kernel_rfl
theorem tab_81 : tiOf Tryd.prog 81 = some ⟨.other, 1, 8, [.nilFunc], false⟩ := by kernel_rfl
theorem tab_82 : tiOf Tryd.prog 82 = some ⟨.int .u64, 1, 8, [.int .u64 0], false⟩ := by kernel_rfl
theorem tab_83 : tiOf Tryd.prog 83 = some ⟨.int .u64, 1, 8, [.int .u64 0], false⟩ := by kernel_rfl
theorem tab_84 : tiOf Tryd.prog 84 = some ⟨.other, 1, 8, [.nilFunc], false⟩ := by kernel_rfl
theorem tab_85 : tiOf Tryd.prog 85 = some ⟨.other, 1, 8, [.nilFunc], false⟩ := by kernel_rfl
theorem tab_86 : tiOf Tryd.prog 86 = some ⟨.slice 4, 1, 24, [.slice none 0 0], false⟩ := by kernel_rfl
theorem tab_87 : tiOf Tryd.prog 87 = some ⟨.other, 1, 8, [.nilFunc], false⟩ := by kernel_rfl
theorem tab_88 : tiOf Tryd.prog 88 = some ⟨.other, 1, 8, [.nilFunc], false⟩ := by kernel_rfl
theorem tab_89 : tiOf Tryd.prog 89 = some ⟨.other, 1, 8, [.nilFunc], false⟩ := by kernel_rfl
theorem tab_90 : tiOf Tryd.prog 90 = some ⟨.other, 1, 8, [.nilFunc], false⟩ := by kernel_rfl
theorem tab_91 : tiOf Tryd.prog 91 = some ⟨.array 64 5, 64, 64, [.int .u8 0, .int .u8 0, .int .u8 0, .int .u8 0, .int .u8 0, .int .u8 0, .int .u8 0, .int .u8 0, .int .u8 0, .int .u8 0, .int .u8 0, .int .u8 0, .int .u8 0, .int .u8 0, .int .u8 0, .int .u8 0, .int .u8 0, .int .u8 0, .int .u8 0, .int .u8 0, .int .u8 0, .int .u8 0, .int .u8 0, .int .u8 0, .int .u8 0, .int .u8 0, .int .u8 0, .int .u8 0, .int .u8 0, .int .u8 0, .int .u8 0, .int .u8 0, .int .u8 0, .int .u8 0, .int .u8 0, .int .u8 0, .int .u8 0, .int .u8 0, .int .u8 0, .int .u8 0, .int .u8 0, .int .u8 0, .int .u8 0, .int .u8 0, .int .u8 0, .int .u8 0, .int .u8 0, .int .u8 0, .int .u8 0, .int .u8 0, .int .u8 0, .int .u8 0, .int .u8 0, .int .u8 0, .int .u8 0, .int .u8 0, .int .u8 0, .int .u8 0, .int .u8 0, .int .u8 0, .int .u8 0, .int .u8 0, .int .u8 0, .int .u8 0], false⟩ := by kernel_rfl
theorem tab_92 : tiOf Tryd.prog 92 = some ⟨.int .u64, 1, 8, [.int .u64 0], false⟩ := by kernel_rfl
theorem tab_93 : tiOf Tryd.prog 93 = some ⟨.other, 1, 8, [.nilFunc], false⟩ := by kernel_rfl
theorem tab_99 : tiOf Tryd.prog 99 = some ⟨.int .u32, 1, 4, [.int .u32 0], false⟩ := by kernel_rfl
theorem tab_102 : tiOf Tryd.prog 102 = some ⟨.other, 1, 8, [.nilFunc], false⟩ := by kernel_rfl

theorem tab_ok : ∀ t ti, tab t = some ti → tiOf Tryd.prog t = some ti := by
  intro t ti h
  unfold tab at h
  split at h
  · cases h; exact tab_1
  · cases h; exact tab_2
  · cases h; exact tab_3
  · cases h; exact tab_4
  · cases h; exact tab_5
  · cases h; exact tab_9
  · cases h; exact tab_12
  · cases h; exact tab_21
  · cases h; exact tab_22
  · cases h; exact tab_24
  · cases h; exact tab_25
  · cases h; exact tab_27
  · cases h; exact tab_29
  · cases h; exact tab_30
  · cases h; exact tab_31
  · cases h; exact tab_32
  · cases h; exact tab_33
  · cases h; exact tab_34
  · cases h; exact tab_35
  · cases h; exact tab_36
  · cases h; exact tab_37
  · cases h; exact tab_38
  · cases h; exact tab_40
  · cases h; exact tab_41
  · cases h; exact tab_43
  · cases h; exact tab_45
  · cases h; exact tab_46
  · cases h; exact tab_47
  · cases h; exact tab_48
  · cases h; exact tab_49
  · cases h; exact tab_50
  · cases h; exact tab_51
  · cases h; exact tab_52
  · cases h; exact tab_53
  · cases h; exact tab_54
  · cases h; exact tab_55
  · cases h; exact tab_56
  · cases h; exact tab_57
  · cases h; exact tab_58
  · cases h; exact tab_59
  · cases h; exact tab_60
  · cases h; exact tab_61
  · cases h; exact tab_62
  · cases h; exact tab_63
  · cases h; exact tab_64
  · cases h; exact tab_66
  · cases h; exact tab_67
  · cases h; exact tab_68
  · cases h; exact tab_69
  · cases h; exact tab_70
  · cases h; exact tab_71
  · cases h; exact tab_72
  · cases h; exact tab_73
  · cases h; exact tab_74
  · cases h; exact tab_75
  · cases h; exact tab_76
  · cases h; exact tab_77
  · cases h; exact tab_78
  · cases h; exact tab_79
  · cases h; exact tab_80
  · cases h; exact tab_81
  · cases h; exact tab_82
  · cases h; exact tab_83
  · cases h; exact tab_84
  · cases h; exact tab_85
  · cases h; exact tab_86
  · cases h; exact tab_87
  · cases h; exact tab_88
  · cases h; exact tab_89
  · cases h; exact tab_90
  · cases h; exact tab_91
  · cases h; exact tab_92
  · cases h; exact tab_93
  · cases h; exact tab_99
  · cases h; exact tab_102
  · cases h

theorem mixed : Tryd.prog.follows .mixedOrders = true := by kernel_rfl

end Go.Proofs.YtllompejbfbabaaDoor
