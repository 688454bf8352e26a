/- Types of this seat, as the executor reads them. -/
import Derived.Test.YtnmeehiahlfgaaaQZa
import Derived.Test.YtnmeehiahlfgaaaProg
import Derived.KernelRfl
namespace Go.Proofs.Ytnmeehiahlfgaaa
open Go
theorem ty1 : tyX Try.prog 1 = some ⟨1, 8, [.d (.v .nilFunc)], .other⟩ := by kernel_rfl
theorem ty2 : tyX Try.prog 2 = some ⟨1, 8, [.d (.v (.int .i64 0))], .int .i64⟩ := by kernel_rfl
theorem ty3 : tyX Try.prog 3 = some ⟨1, 8, [.d (.v (.int .i64 0))], .int .i64⟩ := by kernel_rfl
theorem ty4 : tyX Try.prog 4 = some ⟨1, 1, [.d (.v (.bool false))], .bool⟩ := by kernel_rfl
theorem ty5 : tyX Try.prog 5 = some ⟨1, 1, [.d (.v (.int .u8 0))], .int .u8⟩ := by kernel_rfl
theorem ty6 : tyX Try.prog 6 = some ⟨1, 1, [.d (.v (.int .u8 0))], .int .u8⟩ := by kernel_rfl
theorem ty7 : tyX Try.prog 7 = some ⟨4, 24, [.d (.v (.int .i64 0)), .d (.v (.int .i64 0)), .d (.v (.bool false)), .d (.v (.int .u8 0))], .struct [(0, 1), (1, 1), (2, 1), (3, 1)]⟩ := by kernel_rfl
theorem ty8 : tyX Try.prog 8 = some ⟨4, 24, [.d (.v (.int .i64 0)), .d (.v (.int .i64 0)), .d (.v (.bool false)), .d (.v (.int .u8 0))], .struct [(0, 1), (1, 1), (2, 1), (3, 1)]⟩ := by kernel_rfl
theorem ty9 : tyX Try.prog 9 = some ⟨1, 16, [.d (.v (.string ByteArray.empty))], .str⟩ := by kernel_rfl
theorem ty10 : tyX Try.prog 10 = some ⟨1, 16, [.d (.v (.string ByteArray.empty))], .str⟩ := by kernel_rfl
theorem ty11 : tyX Try.prog 11 = some ⟨1, 16, [.d (.v (.string ByteArray.empty))], .str⟩ := by kernel_rfl
theorem ty12 : tyX Try.prog 12 = some ⟨1, 8, [.d (.v (.int .u64 0))], .int .u64⟩ := by kernel_rfl
theorem ty13 : tyX Try.prog 13 = some ⟨2, 24, [.d (.v (.string ByteArray.empty)), .d (.v (.int .u64 0))], .struct [(0, 1), (1, 1)]⟩ := by kernel_rfl
theorem ty14 : tyX Try.prog 14 = some ⟨2, 24, [.d (.v (.string ByteArray.empty)), .d (.v (.int .u64 0))], .struct [(0, 1), (1, 1)]⟩ := by kernel_rfl
theorem ty15 : tyX Try.prog 15 = some ⟨1, 8, [.d (.v (.pointer none))], .other⟩ := by kernel_rfl
theorem ty16 : tyX Try.prog 16 = some ⟨1, 8, [.d (.v (.pointer none))], .other⟩ := by kernel_rfl
theorem ty17 : tyX Try.prog 17 = some ⟨1, 8, [.d (.v (.pointer none))], .other⟩ := by kernel_rfl
theorem ty18 : tyX Try.prog 18 = some ⟨1, 8, [.d (.v (.pointer none))], .struct [(0, 1)]⟩ := by kernel_rfl
theorem ty19 : tyX Try.prog 19 = some ⟨1, 8, [.d (.v (.pointer none))], .struct [(0, 1)]⟩ := by kernel_rfl
theorem ty21 : tyX Try.prog 21 = some ⟨1, 4, [.d (.v (.int .i32 0))], .int .i32⟩ := by kernel_rfl
theorem ty22 : tyX Try.prog 22 = some ⟨1, 24, [.nilsl], .slice 5⟩ := by kernel_rfl
theorem ty23 : tyX Try.prog 23 = some ⟨1, 8, [.d (.v .nilFunc)], .other⟩ := by kernel_rfl
theorem ty25 : tyX Try.prog 25 = some ⟨1, 8, [.d (.v .nilFunc)], .other⟩ := by kernel_rfl
theorem ty26 : tyX Try.prog 26 = some ⟨1, 24, [.nilsl], .slice 3⟩ := by kernel_rfl
theorem ty28 : tyX Try.prog 28 = some ⟨1, 8, [.d (.v .nilFunc)], .other⟩ := by kernel_rfl
theorem ty30 : tyX Try.prog 30 = some ⟨1, 8, [.d (.v .nilFunc)], .other⟩ := by kernel_rfl
theorem ty32 : tyX Try.prog 32 = some ⟨1, 8, [.d (.v .nilFunc)], .other⟩ := by kernel_rfl
theorem ty33 : tyX Try.prog 33 = some ⟨1, 8, [.d (.v .nilFunc)], .other⟩ := by kernel_rfl
theorem ty34 : tyX Try.prog 34 = some ⟨1, 8, [.d (.v .nilFunc)], .other⟩ := by kernel_rfl
theorem ty35 : tyX Try.prog 35 = some ⟨1, 8, [.d (.v .nilFunc)], .other⟩ := by kernel_rfl
theorem ty37 : tyX Try.prog 37 = some ⟨1, 8, [.d (.v .nilFunc)], .other⟩ := by kernel_rfl
theorem ty38 : tyX Try.prog 38 = some ⟨1, 8, [.d (.v .nilFunc)], .other⟩ := by kernel_rfl
theorem ty39 : tyX Try.prog 39 = some ⟨5, 40, [.d (.v (.int .i64 0)), .d (.v (.int .i64 0)), .d (.v (.int .i64 0)), .d (.v (.int .i64 0)), .d (.v (.int .i64 0))], .array 5 3⟩ := by kernel_rfl
theorem ty40 : tyX Try.prog 40 = some ⟨6, 64, [.nilsl, .d (.v (.int .i64 0)), .d (.v (.int .i64 0)), .d (.v (.int .i64 0)), .d (.v (.int .i64 0)), .d (.v (.int .i64 0))], .struct [(0, 1), (1, 5)]⟩ := by kernel_rfl
theorem ty41 : tyX Try.prog 41 = some ⟨6, 64, [.nilsl, .d (.v (.int .i64 0)), .d (.v (.int .i64 0)), .d (.v (.int .i64 0)), .d (.v (.int .i64 0)), .d (.v (.int .i64 0))], .struct [(0, 1), (1, 5)]⟩ := by kernel_rfl
theorem ty42 : tyX Try.prog 42 = some ⟨1, 8, [.d (.v .nilFunc)], .other⟩ := by kernel_rfl
theorem ty43 : tyX Try.prog 43 = some ⟨1, 8, [.d (.v .nilFunc)], .other⟩ := by kernel_rfl
theorem ty44 : tyX Try.prog 44 = some ⟨1, 8, [.d (.v .nilFunc)], .other⟩ := by kernel_rfl
theorem ty45 : tyX Try.prog 45 = some ⟨1, 24, [.nilsl], .slice 26⟩ := by kernel_rfl
theorem ty46 : tyX Try.prog 46 = some ⟨1, 8, [.d (.v .nilFunc)], .other⟩ := by kernel_rfl
theorem ty47 : tyX Try.prog 47 = some ⟨1, 8, [.d (.v .nilFunc)], .other⟩ := by kernel_rfl
theorem ty48 : tyX Try.prog 48 = some ⟨1, 8, [.d (.v .nilFunc)], .other⟩ := by kernel_rfl
theorem ty49 : tyX Try.prog 49 = some ⟨1, 8, [.d (.v .nilFunc)], .other⟩ := by kernel_rfl
theorem ty50 : tyX Try.prog 50 = some ⟨1, 8, [.d (.v (.map none))], .map 56 41⟩ := by kernel_rfl
theorem ty51 : tyX Try.prog 51 = some ⟨3, 24, [.d (.v (.int .i64 0)), .d (.v (.int .i64 0)), .d (.v (.map none))], .struct [(0, 1), (1, 1), (2, 1)]⟩ := by kernel_rfl
theorem ty52 : tyX Try.prog 52 = some ⟨3, 24, [.d (.v (.int .i64 0)), .d (.v (.int .i64 0)), .d (.v (.map none))], .struct [(0, 1), (1, 1), (2, 1)]⟩ := by kernel_rfl
theorem ty53 : tyX Try.prog 53 = some ⟨1, 8, [.d (.v .nilFunc)], .other⟩ := by kernel_rfl
theorem ty54 : tyX Try.prog 54 = some ⟨1, 8, [.d (.v (.map none))], .map 56 3⟩ := by kernel_rfl
theorem ty55 : tyX Try.prog 55 = some ⟨1, 8, [.d (.v .nilFunc)], .other⟩ := by kernel_rfl
theorem ty56 : tyX Try.prog 56 = some ⟨4, 32, [.d (.v (.int .i64 0)), .d (.v (.int .i64 0)), .d (.v (.int .i64 0)), .d (.v (.int .i64 0))], .array 4 3⟩ := by kernel_rfl
theorem ty57 : tyX Try.prog 57 = some ⟨1, 8, [.d (.v .nilFunc)], .other⟩ := by kernel_rfl
theorem ty58 : tyX Try.prog 58 = some ⟨1, 8, [.d (.v .nilFunc)], .other⟩ := by kernel_rfl
theorem ty59 : tyX Try.prog 59 = some ⟨1, 8, [.d (.v (.pointer none))], .other⟩ := by kernel_rfl
theorem ty60 : tyX Try.prog 60 = some ⟨1, 8, [.d (.v (.int .u64 0))], .int .u64⟩ := by kernel_rfl
theorem ty61 : tyX Try.prog 61 = some ⟨3, 40, [.nilsl, .d (.v (.int .i64 0)), .d (.v (.int .u64 0))], .struct [(0, 1), (1, 1), (2, 1)]⟩ := by kernel_rfl
theorem ty62 : tyX Try.prog 62 = some ⟨3, 40, [.nilsl, .d (.v (.int .i64 0)), .d (.v (.int .u64 0))], .struct [(0, 1), (1, 1), (2, 1)]⟩ := by kernel_rfl
theorem ty63 : tyX Try.prog 63 = some ⟨1, 8, [.d (.v .nilFunc)], .other⟩ := by kernel_rfl
theorem ty64 : tyX Try.prog 64 = some ⟨1, 8, [.d (.v .nilFunc)], .other⟩ := by kernel_rfl
theorem ty65 : tyX Try.prog 65 = some ⟨1, 8, [.d (.v .nilFunc)], .other⟩ := by kernel_rfl
theorem ty66 : tyX Try.prog 66 = some ⟨1, 8, [.d (.v .nilFunc)], .other⟩ := by kernel_rfl
theorem ty67 : tyX Try.prog 67 = some ⟨1, 8, [.d (.v .nilFunc)], .other⟩ := by kernel_rfl
theorem ty68 : tyX Try.prog 68 = some ⟨1, 24, [.nilsl], .slice 45⟩ := by kernel_rfl
theorem ty69 : tyX Try.prog 69 = some ⟨1, 8, [.d (.v .nilFunc)], .other⟩ := by kernel_rfl
theorem ty70 : tyX Try.prog 70 = some ⟨1, 8, [.d (.v .nilFunc)], .other⟩ := by kernel_rfl
theorem ty71 : tyX Try.prog 71 = some ⟨1, 8, [.d (.v .nilFunc)], .other⟩ := by kernel_rfl
theorem ty72 : tyX Try.prog 72 = some ⟨1, 8, [.d (.v .nilFunc)], .other⟩ := by kernel_rfl
theorem ty73 : tyX Try.prog 73 = some ⟨1, 8, [.d (.v .nilFunc)], .other⟩ := by kernel_rfl
theorem ty75 : tyX Try.prog 75 = some ⟨1, 8, [.d (.v .nilFunc)], .other⟩ := by kernel_rfl
theorem ty76 : tyX Try.prog 76 = some ⟨1, 8, [.d (.v (.int .u64 0))], .int .u64⟩ := by kernel_rfl
theorem ty77 : tyX Try.prog 77 = some ⟨1, 8, [.d (.v .nilFunc)], .other⟩ := by kernel_rfl
theorem ty78 : tyX Try.prog 78 = some ⟨4, 40, [.d (.v (.pointer none)), .d (.v (.pointer none)), .d (.v (.pointer none)), .d (.v (.string ByteArray.empty))], .struct [(0, 1), (1, 1), (2, 1), (3, 1)]⟩ := by kernel_rfl
theorem ty79 : tyX Try.prog 79 = some ⟨4, 40, [.d (.v (.pointer none)), .d (.v (.pointer none)), .d (.v (.pointer none)), .d (.v (.string ByteArray.empty))], .struct [(0, 1), (1, 1), (2, 1), (3, 1)]⟩ := by kernel_rfl
theorem ty80 : tyX Try.prog 80 = some ⟨0, 0, [], .array 0 16⟩ := by kernel_rfl
theorem ty81 : tyX Try.prog 81 = some ⟨0, 0, [], .struct [(0, 0)]⟩ := by kernel_rfl
theorem ty82 : tyX Try.prog 82 = some ⟨0, 0, [], .struct [(0, 0)]⟩ := by kernel_rfl
theorem ty83 : tyX Try.prog 83 = some ⟨1, 4, [.d (.v (.int .u32 0))], .int .u32⟩ := by kernel_rfl
theorem ty84 : tyX Try.prog 84 = some ⟨1, 1, [.d (.v (.int .u8 0))], .int .u8⟩ := by kernel_rfl
theorem ty85 : tyX Try.prog 85 = some ⟨1, 1, [.d (.v (.int .u8 0))], .int .u8⟩ := by kernel_rfl
theorem ty86 : tyX Try.prog 86 = some ⟨1, 8, [.d (.v .nilFunc)], .other⟩ := by kernel_rfl
theorem ty87 : tyX Try.prog 87 = some ⟨1, 8, [.d (.v (.pointer none))], .other⟩ := by kernel_rfl
theorem ty88 : tyX Try.prog 88 = some ⟨1, 4, [.d (.v (.int .i32 0))], .int .i32⟩ := by kernel_rfl
theorem ty89 : tyX Try.prog 89 = some ⟨1, 4, [.d (.v (.int .i32 0))], .int .i32⟩ := by kernel_rfl
theorem ty90 : tyX Try.prog 90 = some ⟨11, 48, [.d (.v (.int .u64 0)), .d (.v (.int .u64 0)), .d (.v (.int .u32 0)), .d (.v (.int .u8 0)), .d (.v (.int .u8 0)), .d (.v (.int .u8 0)), .d (.v (.int .u8 0)), .d (.v .nilFunc), .d (.v (.pointer none)), .d (.v (.int .i32 0)), .d (.v (.int .i32 0))], .struct [(0, 1), (1, 1), (2, 1), (3, 1), (4, 1), (5, 1), (6, 1), (7, 1), (8, 1), (9, 1), (10, 1)]⟩ := by kernel_rfl
theorem ty91 : tyX Try.prog 91 = some ⟨11, 48, [.d (.v (.int .u64 0)), .d (.v (.int .u64 0)), .d (.v (.int .u32 0)), .d (.v (.int .u8 0)), .d (.v (.int .u8 0)), .d (.v (.int .u8 0)), .d (.v (.int .u8 0)), .d (.v .nilFunc), .d (.v (.pointer none)), .d (.v (.int .i32 0)), .d (.v (.int .i32 0))], .struct [(0, 1), (1, 1), (2, 1), (3, 1), (4, 1), (5, 1), (6, 1), (7, 1), (8, 1), (9, 1), (10, 1)]⟩ := by kernel_rfl
theorem ty92 : tyX Try.prog 92 = some ⟨1, 8, [.d (.v (.pointer none))], .other⟩ := by kernel_rfl
def getT : List (Nat × TyI) → Nat → Option TyI
  | [], _ => none
  | (k, T) :: r, t => match Nat.beq t k with
    | true => some T
    | false => getT r t
def TabOK (P : Program) : List (Nat × TyI) → Prop
  | [] => True
  | (k, T) :: r => tyX P k = some T ∧ TabOK P r
theorem getT_ok {P : Program} {t : Nat} {T : TyI} : ∀ {tab : List (Nat × TyI)}, TabOK P tab → getT tab t = some T → tyX P t = some T
  | [], _, h => by cases h
  | (k, S) :: r, ⟨h1, h2⟩, h => by
    unfold getT at h
    split at h
    · rename_i hb; obtain rfl := Nat.eq_of_beq_eq_true hb; cases h; exact h1
    · exact getT_ok h2 h
def tab : List (Nat × TyI) := [
  (1, ⟨1, 8, [.d (.v .nilFunc)], .other⟩),
  (2, ⟨1, 8, [.d (.v (.int .i64 0))], .int .i64⟩),
  (3, ⟨1, 8, [.d (.v (.int .i64 0))], .int .i64⟩),
  (4, ⟨1, 1, [.d (.v (.bool false))], .bool⟩),
  (5, ⟨1, 1, [.d (.v (.int .u8 0))], .int .u8⟩),
  (6, ⟨1, 1, [.d (.v (.int .u8 0))], .int .u8⟩),
  (7, ⟨4, 24, [.d (.v (.int .i64 0)), .d (.v (.int .i64 0)), .d (.v (.bool false)), .d (.v (.int .u8 0))], .struct [(0, 1), (1, 1), (2, 1), (3, 1)]⟩),
  (8, ⟨4, 24, [.d (.v (.int .i64 0)), .d (.v (.int .i64 0)), .d (.v (.bool false)), .d (.v (.int .u8 0))], .struct [(0, 1), (1, 1), (2, 1), (3, 1)]⟩),
  (9, ⟨1, 16, [.d (.v (.string ByteArray.empty))], .str⟩),
  (10, ⟨1, 16, [.d (.v (.string ByteArray.empty))], .str⟩),
  (11, ⟨1, 16, [.d (.v (.string ByteArray.empty))], .str⟩),
  (12, ⟨1, 8, [.d (.v (.int .u64 0))], .int .u64⟩),
  (13, ⟨2, 24, [.d (.v (.string ByteArray.empty)), .d (.v (.int .u64 0))], .struct [(0, 1), (1, 1)]⟩),
  (14, ⟨2, 24, [.d (.v (.string ByteArray.empty)), .d (.v (.int .u64 0))], .struct [(0, 1), (1, 1)]⟩),
  (15, ⟨1, 8, [.d (.v (.pointer none))], .other⟩),
  (16, ⟨1, 8, [.d (.v (.pointer none))], .other⟩),
  (17, ⟨1, 8, [.d (.v (.pointer none))], .other⟩),
  (18, ⟨1, 8, [.d (.v (.pointer none))], .struct [(0, 1)]⟩),
  (19, ⟨1, 8, [.d (.v (.pointer none))], .struct [(0, 1)]⟩),
  (21, ⟨1, 4, [.d (.v (.int .i32 0))], .int .i32⟩),
  (22, ⟨1, 24, [.nilsl], .slice 5⟩),
  (23, ⟨1, 8, [.d (.v .nilFunc)], .other⟩),
  (25, ⟨1, 8, [.d (.v .nilFunc)], .other⟩),
  (26, ⟨1, 24, [.nilsl], .slice 3⟩),
  (28, ⟨1, 8, [.d (.v .nilFunc)], .other⟩),
  (30, ⟨1, 8, [.d (.v .nilFunc)], .other⟩),
  (32, ⟨1, 8, [.d (.v .nilFunc)], .other⟩),
  (33, ⟨1, 8, [.d (.v .nilFunc)], .other⟩),
  (34, ⟨1, 8, [.d (.v .nilFunc)], .other⟩),
  (35, ⟨1, 8, [.d (.v .nilFunc)], .other⟩),
  (37, ⟨1, 8, [.d (.v .nilFunc)], .other⟩),
  (38, ⟨1, 8, [.d (.v .nilFunc)], .other⟩),
  (39, ⟨5, 40, [.d (.v (.int .i64 0)), .d (.v (.int .i64 0)), .d (.v (.int .i64 0)), .d (.v (.int .i64 0)), .d (.v (.int .i64 0))], .array 5 3⟩),
  (40, ⟨6, 64, [.nilsl, .d (.v (.int .i64 0)), .d (.v (.int .i64 0)), .d (.v (.int .i64 0)), .d (.v (.int .i64 0)), .d (.v (.int .i64 0))], .struct [(0, 1), (1, 5)]⟩),
  (41, ⟨6, 64, [.nilsl, .d (.v (.int .i64 0)), .d (.v (.int .i64 0)), .d (.v (.int .i64 0)), .d (.v (.int .i64 0)), .d (.v (.int .i64 0))], .struct [(0, 1), (1, 5)]⟩),
  (42, ⟨1, 8, [.d (.v .nilFunc)], .other⟩),
  (43, ⟨1, 8, [.d (.v .nilFunc)], .other⟩),
  (44, ⟨1, 8, [.d (.v .nilFunc)], .other⟩),
  (45, ⟨1, 24, [.nilsl], .slice 26⟩),
  (46, ⟨1, 8, [.d (.v .nilFunc)], .other⟩),
  (47, ⟨1, 8, [.d (.v .nilFunc)], .other⟩),
  (48, ⟨1, 8, [.d (.v .nilFunc)], .other⟩),
  (49, ⟨1, 8, [.d (.v .nilFunc)], .other⟩),
  (50, ⟨1, 8, [.d (.v (.map none))], .map 56 41⟩),
  (51, ⟨3, 24, [.d (.v (.int .i64 0)), .d (.v (.int .i64 0)), .d (.v (.map none))], .struct [(0, 1), (1, 1), (2, 1)]⟩),
  (52, ⟨3, 24, [.d (.v (.int .i64 0)), .d (.v (.int .i64 0)), .d (.v (.map none))], .struct [(0, 1), (1, 1), (2, 1)]⟩),
  (53, ⟨1, 8, [.d (.v .nilFunc)], .other⟩),
  (54, ⟨1, 8, [.d (.v (.map none))], .map 56 3⟩),
  (55, ⟨1, 8, [.d (.v .nilFunc)], .other⟩),
  (56, ⟨4, 32, [.d (.v (.int .i64 0)), .d (.v (.int .i64 0)), .d (.v (.int .i64 0)), .d (.v (.int .i64 0))], .array 4 3⟩),
  (57, ⟨1, 8, [.d (.v .nilFunc)], .other⟩),
  (58, ⟨1, 8, [.d (.v .nilFunc)], .other⟩),
  (59, ⟨1, 8, [.d (.v (.pointer none))], .other⟩),
  (60, ⟨1, 8, [.d (.v (.int .u64 0))], .int .u64⟩),
  (61, ⟨3, 40, [.nilsl, .d (.v (.int .i64 0)), .d (.v (.int .u64 0))], .struct [(0, 1), (1, 1), (2, 1)]⟩),
  (62, ⟨3, 40, [.nilsl, .d (.v (.int .i64 0)), .d (.v (.int .u64 0))], .struct [(0, 1), (1, 1), (2, 1)]⟩),
  (63, ⟨1, 8, [.d (.v .nilFunc)], .other⟩),
  (64, ⟨1, 8, [.d (.v .nilFunc)], .other⟩),
  (65, ⟨1, 8, [.d (.v .nilFunc)], .other⟩),
  (66, ⟨1, 8, [.d (.v .nilFunc)], .other⟩),
  (67, ⟨1, 8, [.d (.v .nilFunc)], .other⟩),
  (68, ⟨1, 24, [.nilsl], .slice 45⟩),
  (69, ⟨1, 8, [.d (.v .nilFunc)], .other⟩),
  (70, ⟨1, 8, [.d (.v .nilFunc)], .other⟩),
  (71, ⟨1, 8, [.d (.v .nilFunc)], .other⟩),
  (72, ⟨1, 8, [.d (.v .nilFunc)], .other⟩),
  (73, ⟨1, 8, [.d (.v .nilFunc)], .other⟩),
  (75, ⟨1, 8, [.d (.v .nilFunc)], .other⟩),
  (76, ⟨1, 8, [.d (.v (.int .u64 0))], .int .u64⟩),
  (77, ⟨1, 8, [.d (.v .nilFunc)], .other⟩),
  (78, ⟨4, 40, [.d (.v (.pointer none)), .d (.v (.pointer none)), .d (.v (.pointer none)), .d (.v (.string ByteArray.empty))], .struct [(0, 1), (1, 1), (2, 1), (3, 1)]⟩),
  (79, ⟨4, 40, [.d (.v (.pointer none)), .d (.v (.pointer none)), .d (.v (.pointer none)), .d (.v (.string ByteArray.empty))], .struct [(0, 1), (1, 1), (2, 1), (3, 1)]⟩),
  (80, ⟨0, 0, [], .array 0 16⟩),
  (81, ⟨0, 0, [], .struct [(0, 0)]⟩),
  (82, ⟨0, 0, [], .struct [(0, 0)]⟩),
  (83, ⟨1, 4, [.d (.v (.int .u32 0))], .int .u32⟩),
  (84, ⟨1, 1, [.d (.v (.int .u8 0))], .int .u8⟩),
  (85, ⟨1, 1, [.d (.v (.int .u8 0))], .int .u8⟩),
  (86, ⟨1, 8, [.d (.v .nilFunc)], .other⟩),
  (87, ⟨1, 8, [.d (.v (.pointer none))], .other⟩),
  (88, ⟨1, 4, [.d (.v (.int .i32 0))], .int .i32⟩),
  (89, ⟨1, 4, [.d (.v (.int .i32 0))], .int .i32⟩),
  (90, ⟨11, 48, [.d (.v (.int .u64 0)), .d (.v (.int .u64 0)), .d (.v (.int .u32 0)), .d (.v (.int .u8 0)), .d (.v (.int .u8 0)), .d (.v (.int .u8 0)), .d (.v (.int .u8 0)), .d (.v .nilFunc), .d (.v (.pointer none)), .d (.v (.int .i32 0)), .d (.v (.int .i32 0))], .struct [(0, 1), (1, 1), (2, 1), (3, 1), (4, 1), (5, 1), (6, 1), (7, 1), (8, 1), (9, 1), (10, 1)]⟩),
  (91, ⟨11, 48, [.d (.v (.int .u64 0)), .d (.v (.int .u64 0)), .d (.v (.int .u32 0)), .d (.v (.int .u8 0)), .d (.v (.int .u8 0)), .d (.v (.int .u8 0)), .d (.v (.int .u8 0)), .d (.v .nilFunc), .d (.v (.pointer none)), .d (.v (.int .i32 0)), .d (.v (.int .i32 0))], .struct [(0, 1), (1, 1), (2, 1), (3, 1), (4, 1), (5, 1), (6, 1), (7, 1), (8, 1), (9, 1), (10, 1)]⟩),
  (92, ⟨1, 8, [.d (.v (.pointer none))], .other⟩)]
theorem tabOK : TabOK Try.prog tab := ⟨ty1, ty2, ty3, ty4, ty5, ty6, ty7, ty8, ty9, ty10, ty11, ty12, ty13, ty14, ty15, ty16, ty17, ty18, ty19, ty21, ty22, ty23, ty25, ty26, ty28, ty30, ty32, ty33, ty34, ty35, ty37, ty38, ty39, ty40, ty41, ty42, ty43, ty44, ty45, ty46, ty47, ty48, ty49, ty50, ty51, ty52, ty53, ty54, ty55, ty56, ty57, ty58, ty59, ty60, ty61, ty62, ty63, ty64, ty65, ty66, ty67, ty68, ty69, ty70, ty71, ty72, ty73, ty75, ty76, ty77, ty78, ty79, ty80, ty81, ty82, ty83, ty84, ty85, ty86, ty87, ty88, ty89, ty90, ty91, ty92, trivial⟩
noncomputable def G : Gen := { P := Try.prog, ty := getT tab, ok := fun _ _ h => getT_ok tabOK h, mixed := by kernel_rfl, sized := by kernel_rfl }
end Go.Proofs.Ytnmeehiahlfgaaa
