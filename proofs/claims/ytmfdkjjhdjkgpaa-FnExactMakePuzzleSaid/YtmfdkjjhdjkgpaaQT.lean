/- Types of this seat, as the executor reads them. -/
import Derived.Test.YtmfdkjjhdjkgpaaQZa
import Derived.Test.YtmfdkjjhdjkgpaaProg
import Derived.KernelRfl
namespace Go.Proofs.Ytmfdkjjhdjkgpaa
open Go
theorem ty1 : tyX Try.prog 1 = some ⟨1, 8, [.d (.v .nilFunc)], .other⟩ := by kernel_rfl
theorem ty2 : tyX Try.prog 2 = some ⟨1, 8, [.d (.v (.int .i64 0))], .int .i64⟩ := by kernel_rfl
theorem ty3 : tyX Try.prog 3 = some ⟨1, 8, [.d (.v (.int .i64 0))], .int .i64⟩ := by kernel_rfl
theorem ty4 : tyX Try.prog 4 = some ⟨1, 1, [.d (.v (.bool false))], .bool⟩ := by kernel_rfl
theorem ty5 : tyX Try.prog 5 = some ⟨1, 1, [.d (.v (.int .u8 0))], .int .u8⟩ := by kernel_rfl
theorem ty6 : tyX Try.prog 6 = some ⟨1, 1, [.d (.v (.int .u8 0))], .int .u8⟩ := by kernel_rfl
theorem ty7 : tyX Try.prog 7 = some ⟨4, 24, [.d (.v (.int .i64 0)), .d (.v (.int .i64 0)), .d (.v (.bool false)), .d (.v (.int .u8 0))], .struct [(0, 1), (1, 1), (2, 1), (3, 1)]⟩ := by kernel_rfl
theorem ty8 : tyX Try.prog 8 = some ⟨4, 24, [.d (.v (.int .i64 0)), .d (.v (.int .i64 0)), .d (.v (.bool false)), .d (.v (.int .u8 0))], .struct [(0, 1), (1, 1), (2, 1), (3, 1)]⟩ := by kernel_rfl
theorem ty9 : tyX Try.prog 9 = some ⟨1, 16, [.d (.v (.string ByteArray.empty))], .str⟩ := by kernel_rfl
theorem ty10 : tyX Try.prog 10 = some ⟨1, 16, [.d (.v (.string ByteArray.empty))], .str⟩ := by kernel_rfl
theorem ty11 : tyX Try.prog 11 = some ⟨1, 16, [.d (.v (.string ByteArray.empty))], .str⟩ := by kernel_rfl
theorem ty12 : tyX Try.prog 12 = some ⟨1, 8, [.d (.v (.int .u64 0))], .int .u64⟩ := by kernel_rfl
theorem ty13 : tyX Try.prog 13 = some ⟨2, 24, [.d (.v (.string ByteArray.empty)), .d (.v (.int .u64 0))], .struct [(0, 1), (1, 1)]⟩ := by kernel_rfl
theorem ty14 : tyX Try.prog 14 = some ⟨2, 24, [.d (.v (.string ByteArray.empty)), .d (.v (.int .u64 0))], .struct [(0, 1), (1, 1)]⟩ := by kernel_rfl
theorem ty15 : tyX Try.prog 15 = some ⟨1, 8, [.d (.v (.pointer none))], .other⟩ := by kernel_rfl
theorem ty16 : tyX Try.prog 16 = some ⟨1, 8, [.d (.v (.pointer none))], .other⟩ := by kernel_rfl
theorem ty17 : tyX Try.prog 17 = some ⟨1, 8, [.d (.v (.pointer none))], .other⟩ := by kernel_rfl
theorem ty18 : tyX Try.prog 18 = some ⟨1, 8, [.d (.v (.pointer none))], .struct [(0, 1)]⟩ := by kernel_rfl
theorem ty19 : tyX Try.prog 19 = some ⟨1, 8, [.d (.v (.pointer none))], .struct [(0, 1)]⟩ := by kernel_rfl
theorem ty21 : tyX Try.prog 21 = some ⟨1, 4, [.d (.v (.int .i32 0))], .int .i32⟩ := by kernel_rfl
theorem ty22 : tyX Try.prog 22 = some ⟨1, 24, [.nilsl], .slice 40⟩ := by kernel_rfl
theorem ty24 : tyX Try.prog 24 = some ⟨1, 8, [.d (.v .nilFunc)], .other⟩ := by kernel_rfl
theorem ty25 : tyX Try.prog 25 = some ⟨1, 8, [.d (.v .nilFunc)], .other⟩ := by kernel_rfl
theorem ty26 : tyX Try.prog 26 = some ⟨1, 8, [.d (.v .nilFunc)], .other⟩ := by kernel_rfl
theorem ty27 : tyX Try.prog 27 = some ⟨1, 8, [.d (.v .nilFunc)], .other⟩ := by kernel_rfl
theorem ty28 : tyX Try.prog 28 = some ⟨3, 24, [.d (.v (.int .i64 0)), .d (.v (.int .i64 0)), .d (.v (.int .i64 0))], .struct [(0, 1), (1, 1), (2, 1)]⟩ := by kernel_rfl
theorem ty29 : tyX Try.prog 29 = some ⟨3, 24, [.d (.v (.int .i64 0)), .d (.v (.int .i64 0)), .d (.v (.int .i64 0))], .struct [(0, 1), (1, 1), (2, 1)]⟩ := by kernel_rfl
theorem ty30 : tyX Try.prog 30 = some ⟨1, 24, [.nilsl], .slice 119⟩ := by kernel_rfl
theorem ty31 : tyX Try.prog 31 = some ⟨3, 40, [.d (.v (.int .i64 0)), .d (.v (.int .i64 0)), .nilsl], .struct [(0, 1), (1, 1), (2, 1)]⟩ := by kernel_rfl
theorem ty32 : tyX Try.prog 32 = some ⟨3, 40, [.d (.v (.int .i64 0)), .d (.v (.int .i64 0)), .nilsl], .struct [(0, 1), (1, 1), (2, 1)]⟩ := by kernel_rfl
theorem ty33 : tyX Try.prog 33 = some ⟨1, 8, [.d (.v .nilFunc)], .other⟩ := by kernel_rfl
theorem ty35 : tyX Try.prog 35 = some ⟨1, 8, [.d (.v .nilFunc)], .other⟩ := by kernel_rfl
theorem ty36 : tyX Try.prog 36 = some ⟨3, 24, [.d (.v (.int .i64 0)), .d (.v (.int .i64 0)), .d (.v (.int .i64 0))], .struct [(0, 1), (1, 1), (2, 1)]⟩ := by kernel_rfl
theorem ty37 : tyX Try.prog 37 = some ⟨1, 8, [.d (.v .nilFunc)], .other⟩ := by kernel_rfl
theorem ty38 : tyX Try.prog 38 = some ⟨1, 24, [.nilsl], .slice 99⟩ := by kernel_rfl
theorem ty39 : tyX Try.prog 39 = some ⟨3, 40, [.d (.v (.int .i64 0)), .d (.v (.int .i64 0)), .nilsl], .struct [(0, 1), (1, 1), (2, 1)]⟩ := by kernel_rfl
theorem ty40 : tyX Try.prog 40 = some ⟨3, 40, [.d (.v (.int .i64 0)), .d (.v (.int .i64 0)), .nilsl], .struct [(0, 1), (1, 1), (2, 1)]⟩ := by kernel_rfl
theorem ty41 : tyX Try.prog 41 = some ⟨1, 8, [.d (.v .nilFunc)], .other⟩ := by kernel_rfl
theorem ty42 : tyX Try.prog 42 = some ⟨1, 8, [.d (.v .nilFunc)], .other⟩ := by kernel_rfl
theorem ty43 : tyX Try.prog 43 = some ⟨1, 8, [.d (.v .nilFunc)], .other⟩ := by kernel_rfl
theorem ty44 : tyX Try.prog 44 = some ⟨1, 24, [.nilsl], .slice 36⟩ := by kernel_rfl
theorem ty45 : tyX Try.prog 45 = some ⟨3, 40, [.d (.v (.int .i64 0)), .d (.v (.int .i64 0)), .nilsl], .struct [(0, 1), (1, 1), (2, 1)]⟩ := by kernel_rfl
theorem ty46 : tyX Try.prog 46 = some ⟨3, 40, [.d (.v (.int .i64 0)), .d (.v (.int .i64 0)), .nilsl], .struct [(0, 1), (1, 1), (2, 1)]⟩ := by kernel_rfl
theorem ty48 : tyX Try.prog 48 = some ⟨1, 8, [.d (.v .nilFunc)], .other⟩ := by kernel_rfl
theorem ty49 : tyX Try.prog 49 = some ⟨1, 8, [.d (.v .nilFunc)], .other⟩ := by kernel_rfl
theorem ty50 : tyX Try.prog 50 = some ⟨1, 8, [.d (.v .nilFunc)], .other⟩ := by kernel_rfl
theorem ty51 : tyX Try.prog 51 = some ⟨1, 8, [.d (.v .nilFunc)], .other⟩ := by kernel_rfl
theorem ty52 : tyX Try.prog 52 = some ⟨1, 8, [.d (.v .nilFunc)], .other⟩ := by kernel_rfl
theorem ty53 : tyX Try.prog 53 = some ⟨1, 24, [.nilsl], .slice 29⟩ := by kernel_rfl
theorem ty54 : tyX Try.prog 54 = some ⟨3, 40, [.d (.v (.int .i64 0)), .d (.v (.int .i64 0)), .nilsl], .struct [(0, 1), (1, 1), (2, 1)]⟩ := by kernel_rfl
theorem ty55 : tyX Try.prog 55 = some ⟨3, 40, [.d (.v (.int .i64 0)), .d (.v (.int .i64 0)), .nilsl], .struct [(0, 1), (1, 1), (2, 1)]⟩ := by kernel_rfl
theorem ty56 : tyX Try.prog 56 = some ⟨1, 8, [.d (.v .nilFunc)], .other⟩ := by kernel_rfl
theorem ty58 : tyX Try.prog 58 = some ⟨1, 8, [.d (.v .nilFunc)], .other⟩ := by kernel_rfl
theorem ty59 : tyX Try.prog 59 = some ⟨1, 8, [.d (.v .nilFunc)], .other⟩ := by kernel_rfl
theorem ty60 : tyX Try.prog 60 = some ⟨1, 8, [.d (.v .nilFunc)], .other⟩ := by kernel_rfl
theorem ty61 : tyX Try.prog 61 = some ⟨1, 8, [.d (.v .nilFunc)], .other⟩ := by kernel_rfl
theorem ty62 : tyX Try.prog 62 = some ⟨1, 24, [.nilsl], .slice 3⟩ := by kernel_rfl
theorem ty64 : tyX Try.prog 64 = some ⟨1, 8, [.d (.v .nilFunc)], .other⟩ := by kernel_rfl
theorem ty65 : tyX Try.prog 65 = some ⟨1, 8, [.d (.v .nilFunc)], .other⟩ := by kernel_rfl
theorem ty66 : tyX Try.prog 66 = some ⟨1, 8, [.d (.v .nilFunc)], .other⟩ := by kernel_rfl
theorem ty67 : tyX Try.prog 67 = some ⟨1, 8, [.d (.v .nilFunc)], .other⟩ := by kernel_rfl
theorem ty69 : tyX Try.prog 69 = some ⟨1, 8, [.d (.v .nilFunc)], .other⟩ := by kernel_rfl
theorem ty70 : tyX Try.prog 70 = some ⟨1, 8, [.d (.v .nilFunc)], .other⟩ := by kernel_rfl
theorem ty71 : tyX Try.prog 71 = some ⟨1, 8, [.d (.v .nilFunc)], .other⟩ := by kernel_rfl
theorem ty72 : tyX Try.prog 72 = some ⟨1, 8, [.d (.v .nilFunc)], .other⟩ := by kernel_rfl
theorem ty73 : tyX Try.prog 73 = some ⟨1, 8, [.d (.v .nilFunc)], .other⟩ := by kernel_rfl
theorem ty74 : tyX Try.prog 74 = some ⟨1, 8, [.d (.v .nilFunc)], .other⟩ := by kernel_rfl
theorem ty75 : tyX Try.prog 75 = some ⟨1, 8, [.d (.v .nilFunc)], .other⟩ := by kernel_rfl
theorem ty76 : tyX Try.prog 76 = some ⟨1, 8, [.d (.v .nilFunc)], .other⟩ := by kernel_rfl
theorem ty77 : tyX Try.prog 77 = some ⟨1, 8, [.d (.v .nilFunc)], .other⟩ := by kernel_rfl
theorem ty78 : tyX Try.prog 78 = some ⟨1, 8, [.d (.v .nilFunc)], .other⟩ := by kernel_rfl
theorem ty79 : tyX Try.prog 79 = some ⟨1, 8, [.d (.v .nilFunc)], .other⟩ := by kernel_rfl
theorem ty80 : tyX Try.prog 80 = some ⟨1, 8, [.d (.v .nilFunc)], .other⟩ := by kernel_rfl
theorem ty81 : tyX Try.prog 81 = some ⟨1, 8, [.d (.v .nilFunc)], .other⟩ := by kernel_rfl
theorem ty82 : tyX Try.prog 82 = some ⟨1, 8, [.d (.v .nilFunc)], .other⟩ := by kernel_rfl
theorem ty83 : tyX Try.prog 83 = some ⟨1, 8, [.d (.v .nilFunc)], .other⟩ := by kernel_rfl
theorem ty84 : tyX Try.prog 84 = some ⟨1, 8, [.d (.v .nilFunc)], .other⟩ := by kernel_rfl
theorem ty85 : tyX Try.prog 85 = some ⟨1, 8, [.d (.v .nilFunc)], .other⟩ := by kernel_rfl
theorem ty86 : tyX Try.prog 86 = some ⟨1, 8, [.d (.v .nilFunc)], .other⟩ := by kernel_rfl
theorem ty87 : tyX Try.prog 87 = some ⟨1, 8, [.d (.v .nilFunc)], .other⟩ := by kernel_rfl
theorem ty88 : tyX Try.prog 88 = some ⟨1, 8, [.d (.v .nilFunc)], .other⟩ := by kernel_rfl
theorem ty89 : tyX Try.prog 89 = some ⟨1, 8, [.d (.v .nilFunc)], .other⟩ := by kernel_rfl
theorem ty90 : tyX Try.prog 90 = some ⟨1, 8, [.d (.v .nilFunc)], .other⟩ := by kernel_rfl
theorem ty91 : tyX Try.prog 91 = some ⟨1, 8, [.d (.v .nilFunc)], .other⟩ := by kernel_rfl
theorem ty92 : tyX Try.prog 92 = some ⟨1, 8, [.d (.v .nilFunc)], .other⟩ := by kernel_rfl
theorem ty93 : tyX Try.prog 93 = some ⟨1, 8, [.d (.v .nilFunc)], .other⟩ := by kernel_rfl
theorem ty94 : tyX Try.prog 94 = some ⟨1, 8, [.d (.v .nilFunc)], .other⟩ := by kernel_rfl
theorem ty95 : tyX Try.prog 95 = some ⟨1, 8, [.d (.v .nilFunc)], .other⟩ := by kernel_rfl
theorem ty96 : tyX Try.prog 96 = some ⟨1, 24, [.nilsl], .slice 62⟩ := by kernel_rfl
theorem ty97 : tyX Try.prog 97 = some ⟨1, 8, [.d (.v .nilFunc)], .other⟩ := by kernel_rfl
theorem ty98 : tyX Try.prog 98 = some ⟨3, 24, [.d (.v (.int .i64 0)), .d (.v (.int .i64 0)), .d (.v (.int .i64 0))], .struct [(0, 1), (1, 1), (2, 1)]⟩ := by kernel_rfl
theorem ty99 : tyX Try.prog 99 = some ⟨3, 24, [.d (.v (.int .i64 0)), .d (.v (.int .i64 0)), .d (.v (.int .i64 0))], .struct [(0, 1), (1, 1), (2, 1)]⟩ := by kernel_rfl
theorem ty100 : tyX Try.prog 100 = some ⟨1, 8, [.d (.v .nilFunc)], .other⟩ := by kernel_rfl
theorem ty101 : tyX Try.prog 101 = some ⟨1, 8, [.d (.v .nilFunc)], .other⟩ := by kernel_rfl
theorem ty102 : tyX Try.prog 102 = some ⟨1, 8, [.d (.v .nilFunc)], .other⟩ := by kernel_rfl
theorem ty103 : tyX Try.prog 103 = some ⟨1, 8, [.d (.v .nilFunc)], .other⟩ := by kernel_rfl
theorem ty104 : tyX Try.prog 104 = some ⟨1, 8, [.d (.v .nilFunc)], .other⟩ := by kernel_rfl
theorem ty105 : tyX Try.prog 105 = some ⟨5, 40, [.d (.v (.int .i64 0)), .d (.v (.int .i64 0)), .d (.v (.int .i64 0)), .d (.v (.int .i64 0)), .d (.v (.int .i64 0))], .array 5 3⟩ := by kernel_rfl
theorem ty106 : tyX Try.prog 106 = some ⟨6, 64, [.nilsl, .d (.v (.int .i64 0)), .d (.v (.int .i64 0)), .d (.v (.int .i64 0)), .d (.v (.int .i64 0)), .d (.v (.int .i64 0))], .struct [(0, 1), (1, 5)]⟩ := by kernel_rfl
theorem ty107 : tyX Try.prog 107 = some ⟨6, 64, [.nilsl, .d (.v (.int .i64 0)), .d (.v (.int .i64 0)), .d (.v (.int .i64 0)), .d (.v (.int .i64 0)), .d (.v (.int .i64 0))], .struct [(0, 1), (1, 5)]⟩ := by kernel_rfl
theorem ty108 : tyX Try.prog 108 = some ⟨1, 8, [.d (.v .nilFunc)], .other⟩ := by kernel_rfl
theorem ty109 : tyX Try.prog 109 = some ⟨1, 8, [.d (.v (.map none))], .map 113 107⟩ := by kernel_rfl
theorem ty110 : tyX Try.prog 110 = some ⟨3, 24, [.d (.v (.int .i64 0)), .d (.v (.int .i64 0)), .d (.v (.map none))], .struct [(0, 1), (1, 1), (2, 1)]⟩ := by kernel_rfl
theorem ty111 : tyX Try.prog 111 = some ⟨3, 24, [.d (.v (.int .i64 0)), .d (.v (.int .i64 0)), .d (.v (.map none))], .struct [(0, 1), (1, 1), (2, 1)]⟩ := by kernel_rfl
theorem ty112 : tyX Try.prog 112 = some ⟨1, 8, [.d (.v .nilFunc)], .other⟩ := by kernel_rfl
theorem ty113 : tyX Try.prog 113 = some ⟨4, 32, [.d (.v (.int .i64 0)), .d (.v (.int .i64 0)), .d (.v (.int .i64 0)), .d (.v (.int .i64 0))], .array 4 3⟩ := by kernel_rfl
theorem ty115 : tyX Try.prog 115 = some ⟨1, 8, [.d (.v .nilFunc)], .other⟩ := by kernel_rfl
theorem ty116 : tyX Try.prog 116 = some ⟨1, 8, [.d (.v .nilFunc)], .other⟩ := by kernel_rfl
theorem ty117 : tyX Try.prog 117 = some ⟨1, 8, [.d (.v .nilFunc)], .other⟩ := by kernel_rfl
theorem ty118 : tyX Try.prog 118 = some ⟨1, 8, [.d (.v .nilFunc)], .other⟩ := by kernel_rfl
theorem ty119 : tyX Try.prog 119 = some ⟨3, 24, [.d (.v (.int .i64 0)), .d (.v (.int .i64 0)), .d (.v (.int .i64 0))], .struct [(0, 1), (1, 1), (2, 1)]⟩ := by kernel_rfl
theorem ty120 : tyX Try.prog 120 = some ⟨1, 8, [.d (.v .nilFunc)], .other⟩ := by kernel_rfl
theorem ty121 : tyX Try.prog 121 = some ⟨1, 8, [.d (.v .nilFunc)], .other⟩ := by kernel_rfl
theorem ty122 : tyX Try.prog 122 = some ⟨1, 8, [.d (.v .nilFunc)], .other⟩ := by kernel_rfl
theorem ty123 : tyX Try.prog 123 = some ⟨1, 8, [.d (.v .nilFunc)], .other⟩ := by kernel_rfl
theorem ty124 : tyX Try.prog 124 = some ⟨1, 8, [.d (.v .nilFunc)], .other⟩ := by kernel_rfl
theorem ty125 : tyX Try.prog 125 = some ⟨1, 8, [.d (.v .nilFunc)], .other⟩ := by kernel_rfl
theorem ty126 : tyX Try.prog 126 = some ⟨1, 8, [.d (.v .nilFunc)], .other⟩ := by kernel_rfl
theorem ty127 : tyX Try.prog 127 = some ⟨1, 8, [.d (.v .nilFunc)], .other⟩ := by kernel_rfl
theorem ty128 : tyX Try.prog 128 = some ⟨1, 8, [.d (.v .nilFunc)], .other⟩ := by kernel_rfl
theorem ty129 : tyX Try.prog 129 = some ⟨1, 8, [.d (.v .nilFunc)], .other⟩ := by kernel_rfl
theorem ty130 : tyX Try.prog 130 = some ⟨1, 8, [.d (.v .nilFunc)], .other⟩ := by kernel_rfl
theorem ty131 : tyX Try.prog 131 = some ⟨1, 8, [.d (.v .nilFunc)], .other⟩ := by kernel_rfl
theorem ty132 : tyX Try.prog 132 = some ⟨1, 8, [.d (.v .nilFunc)], .other⟩ := by kernel_rfl
theorem ty133 : tyX Try.prog 133 = some ⟨1, 8, [.d (.v .nilFunc)], .other⟩ := by kernel_rfl
theorem ty134 : tyX Try.prog 134 = some ⟨1, 8, [.d (.v .nilFunc)], .other⟩ := by kernel_rfl
theorem ty135 : tyX Try.prog 135 = some ⟨1, 8, [.d (.v .nilFunc)], .other⟩ := by kernel_rfl
theorem ty137 : tyX Try.prog 137 = some ⟨1, 8, [.d (.v .nilFunc)], .other⟩ := by kernel_rfl
theorem ty138 : tyX Try.prog 138 = some ⟨1, 8, [.d (.v .nilFunc)], .other⟩ := by kernel_rfl
theorem ty139 : tyX Try.prog 139 = some ⟨1, 8, [.d (.v .nilFunc)], .other⟩ := by kernel_rfl
theorem ty140 : tyX Try.prog 140 = some ⟨1, 8, [.d (.v .nilFunc)], .other⟩ := by kernel_rfl
theorem ty141 : tyX Try.prog 141 = some ⟨1, 8, [.d (.v .nilFunc)], .other⟩ := by kernel_rfl
theorem ty142 : tyX Try.prog 142 = some ⟨1, 8, [.d (.v .nilFunc)], .other⟩ := by kernel_rfl
theorem ty143 : tyX Try.prog 143 = some ⟨1, 8, [.d (.v (.pointer none))], .other⟩ := by kernel_rfl
theorem ty144 : tyX Try.prog 144 = some ⟨1, 8, [.d (.v .nilFunc)], .other⟩ := by kernel_rfl
theorem ty145 : tyX Try.prog 145 = some ⟨1, 8, [.d (.v .nilFunc)], .other⟩ := by kernel_rfl
theorem ty146 : tyX Try.prog 146 = some ⟨1, 8, [.d (.v .nilFunc)], .other⟩ := by kernel_rfl
theorem ty147 : tyX Try.prog 147 = some ⟨1, 8, [.d (.v .nilFunc)], .other⟩ := by kernel_rfl
theorem ty148 : tyX Try.prog 148 = some ⟨1, 8, [.d (.v .nilFunc)], .other⟩ := by kernel_rfl
theorem ty149 : tyX Try.prog 149 = some ⟨1, 8, [.d (.v .nilFunc)], .other⟩ := by kernel_rfl
theorem ty150 : tyX Try.prog 150 = some ⟨1, 24, [.nilsl], .slice 4⟩ := by kernel_rfl
theorem ty151 : tyX Try.prog 151 = some ⟨1, 8, [.d (.v .nilFunc)], .other⟩ := by kernel_rfl
theorem ty152 : tyX Try.prog 152 = some ⟨6, 80, [.d (.v (.int .i64 0)), .d (.v (.int .i64 0)), .nilsl, .nilsl, .d (.v (.int .i64 0)), .d (.v .nilFunc)], .struct [(0, 1), (1, 1), (2, 1), (3, 1), (4, 1), (5, 1)]⟩ := by kernel_rfl
theorem ty153 : tyX Try.prog 153 = some ⟨6, 80, [.d (.v (.int .i64 0)), .d (.v (.int .i64 0)), .nilsl, .nilsl, .d (.v (.int .i64 0)), .d (.v .nilFunc)], .struct [(0, 1), (1, 1), (2, 1), (3, 1), (4, 1), (5, 1)]⟩ := by kernel_rfl
theorem ty154 : tyX Try.prog 154 = some ⟨1, 8, [.d (.v .nilFunc)], .other⟩ := by kernel_rfl
theorem ty155 : tyX Try.prog 155 = some ⟨1, 8, [.d (.v .nilFunc)], .other⟩ := by kernel_rfl
theorem ty156 : tyX Try.prog 156 = some ⟨1, 8, [.d (.v (.pointer none))], .other⟩ := by kernel_rfl
theorem ty157 : tyX Try.prog 157 = some ⟨1, 8, [.d (.v .nilFunc)], .other⟩ := by kernel_rfl
theorem ty158 : tyX Try.prog 158 = some ⟨1, 8, [.d (.v .nilFunc)], .other⟩ := by kernel_rfl
theorem ty159 : tyX Try.prog 159 = some ⟨1, 8, [.d (.v .nilFunc)], .other⟩ := by kernel_rfl
theorem ty160 : tyX Try.prog 160 = some ⟨1, 8, [.d (.v (.int .u64 0))], .int .u64⟩ := by kernel_rfl
theorem ty161 : tyX Try.prog 161 = some ⟨1, 8, [.d (.v (.int .i64 0))], .int .i64⟩ := by kernel_rfl
theorem ty163 : tyX Try.prog 163 = some ⟨1, 8, [.d (.v .nilFunc)], .other⟩ := by kernel_rfl
theorem ty164 : tyX Try.prog 164 = some ⟨1, 8, [.d (.v .nilFunc)], .other⟩ := by kernel_rfl
theorem ty165 : tyX Try.prog 165 = some ⟨1, 8, [.d (.v .nilFunc)], .other⟩ := by kernel_rfl
theorem ty166 : tyX Try.prog 166 = some ⟨1, 8, [.d (.v .nilFunc)], .other⟩ := by kernel_rfl
theorem ty167 : tyX Try.prog 167 = some ⟨1, 8, [.d (.v .nilFunc)], .other⟩ := by kernel_rfl
theorem ty168 : tyX Try.prog 168 = some ⟨1, 4, [.d (.v (.int .u32 0))], .int .u32⟩ := by kernel_rfl
theorem ty169 : tyX Try.prog 169 = some ⟨1, 8, [.d (.v .nilFunc)], .other⟩ := by kernel_rfl
theorem ty170 : tyX Try.prog 170 = some ⟨1, 8, [.d (.v (.int .u64 0))], .int .u64⟩ := by kernel_rfl
theorem ty171 : tyX Try.prog 171 = some ⟨1, 8, [.d (.v (.int .u64 0))], .int .u64⟩ := by kernel_rfl
theorem ty172 : tyX Try.prog 172 = some ⟨1, 8, [.d (.v .nilFunc)], .other⟩ := by kernel_rfl
theorem ty173 : tyX Try.prog 173 = some ⟨1, 8, [.d (.v .nilFunc)], .other⟩ := by kernel_rfl
theorem ty174 : tyX Try.prog 174 = some ⟨1, 8, [.d (.v .nilFunc)], .other⟩ := by kernel_rfl
theorem ty175 : tyX Try.prog 175 = some ⟨1, 8, [.d (.v (.pointer none))], .other⟩ := by kernel_rfl
theorem ty176 : tyX Try.prog 176 = some ⟨1, 8, [.d (.v .nilFunc)], .other⟩ := by kernel_rfl
theorem ty177 : tyX Try.prog 177 = some ⟨1, 8, [.d (.v (.pointer none))], .other⟩ := by kernel_rfl
theorem ty179 : tyX Try.prog 179 = some ⟨1, 8, [.d (.v .nilFunc)], .other⟩ := by kernel_rfl
theorem ty180 : tyX Try.prog 180 = some ⟨1, 8, [.d (.v .nilFunc)], .other⟩ := by kernel_rfl
theorem ty181 : tyX Try.prog 181 = some ⟨4, 40, [.d (.v (.pointer none)), .d (.v (.pointer none)), .d (.v (.pointer none)), .d (.v (.string ByteArray.empty))], .struct [(0, 1), (1, 1), (2, 1), (3, 1)]⟩ := by kernel_rfl
theorem ty182 : tyX Try.prog 182 = some ⟨4, 40, [.d (.v (.pointer none)), .d (.v (.pointer none)), .d (.v (.pointer none)), .d (.v (.string ByteArray.empty))], .struct [(0, 1), (1, 1), (2, 1), (3, 1)]⟩ := by kernel_rfl
theorem ty183 : tyX Try.prog 183 = some ⟨0, 0, [], .array 0 16⟩ := by kernel_rfl
theorem ty184 : tyX Try.prog 184 = some ⟨0, 0, [], .struct [(0, 0)]⟩ := by kernel_rfl
theorem ty185 : tyX Try.prog 185 = some ⟨0, 0, [], .struct [(0, 0)]⟩ := by kernel_rfl
theorem ty186 : tyX Try.prog 186 = some ⟨1, 1, [.d (.v (.int .u8 0))], .int .u8⟩ := by kernel_rfl
theorem ty187 : tyX Try.prog 187 = some ⟨1, 1, [.d (.v (.int .u8 0))], .int .u8⟩ := by kernel_rfl
theorem ty188 : tyX Try.prog 188 = some ⟨1, 8, [.d (.v .nilFunc)], .other⟩ := by kernel_rfl
theorem ty189 : tyX Try.prog 189 = some ⟨1, 8, [.d (.v (.pointer none))], .other⟩ := by kernel_rfl
theorem ty190 : tyX Try.prog 190 = some ⟨1, 4, [.d (.v (.int .i32 0))], .int .i32⟩ := by kernel_rfl
theorem ty191 : tyX Try.prog 191 = some ⟨1, 4, [.d (.v (.int .i32 0))], .int .i32⟩ := by kernel_rfl
theorem ty192 : tyX Try.prog 192 = some ⟨11, 48, [.d (.v (.int .u64 0)), .d (.v (.int .u64 0)), .d (.v (.int .u32 0)), .d (.v (.int .u8 0)), .d (.v (.int .u8 0)), .d (.v (.int .u8 0)), .d (.v (.int .u8 0)), .d (.v .nilFunc), .d (.v (.pointer none)), .d (.v (.int .i32 0)), .d (.v (.int .i32 0))], .struct [(0, 1), (1, 1), (2, 1), (3, 1), (4, 1), (5, 1), (6, 1), (7, 1), (8, 1), (9, 1), (10, 1)]⟩ := by kernel_rfl
theorem ty193 : tyX Try.prog 193 = some ⟨11, 48, [.d (.v (.int .u64 0)), .d (.v (.int .u64 0)), .d (.v (.int .u32 0)), .d (.v (.int .u8 0)), .d (.v (.int .u8 0)), .d (.v (.int .u8 0)), .d (.v (.int .u8 0)), .d (.v .nilFunc), .d (.v (.pointer none)), .d (.v (.int .i32 0)), .d (.v (.int .i32 0))], .struct [(0, 1), (1, 1), (2, 1), (3, 1), (4, 1), (5, 1), (6, 1), (7, 1), (8, 1), (9, 1), (10, 1)]⟩ := by kernel_rfl
theorem ty194 : tyX Try.prog 194 = some ⟨1, 8, [.d (.v (.pointer none))], .other⟩ := by kernel_rfl
def getT : List (Nat × TyI) → Nat → Option TyI
  | [], _ => none
  | (k, T) :: r, t => match Nat.beq t k with
    | true => some T
    | false => getT r t
def TabOK (P : Program) : List (Nat × TyI) → Prop
  | [] => True
  | (k, T) :: r => tyX P k = some T ∧ TabOK P r
theorem getT_ok {P : Program} {t : Nat} {T : TyI} : ∀ {tab : List (Nat × TyI)}, TabOK P tab → getT tab t = some T → tyX P t = some T
  | [], _, h => by cases h
  | (k, S) :: r, ⟨h1, h2⟩, h => by
    unfold getT at h
    split at h
    · rename_i hb; obtain rfl := Nat.eq_of_beq_eq_true hb; cases h; exact h1
    · exact getT_ok h2 h
def tab : List (Nat × TyI) := [
  (1, ⟨1, 8, [.d (.v .nilFunc)], .other⟩),
  (2, ⟨1, 8, [.d (.v (.int .i64 0))], .int .i64⟩),
  (3, ⟨1, 8, [.d (.v (.int .i64 0))], .int .i64⟩),
  (4, ⟨1, 1, [.d (.v (.bool false))], .bool⟩),
  (5, ⟨1, 1, [.d (.v (.int .u8 0))], .int .u8⟩),
  (6, ⟨1, 1, [.d (.v (.int .u8 0))], .int .u8⟩),
  (7, ⟨4, 24, [.d (.v (.int .i64 0)), .d (.v (.int .i64 0)), .d (.v (.bool false)), .d (.v (.int .u8 0))], .struct [(0, 1), (1, 1), (2, 1), (3, 1)]⟩),
  (8, ⟨4, 24, [.d (.v (.int .i64 0)), .d (.v (.int .i64 0)), .d (.v (.bool false)), .d (.v (.int .u8 0))], .struct [(0, 1), (1, 1), (2, 1), (3, 1)]⟩),
  (9, ⟨1, 16, [.d (.v (.string ByteArray.empty))], .str⟩),
  (10, ⟨1, 16, [.d (.v (.string ByteArray.empty))], .str⟩),
  (11, ⟨1, 16, [.d (.v (.string ByteArray.empty))], .str⟩),
  (12, ⟨1, 8, [.d (.v (.int .u64 0))], .int .u64⟩),
  (13, ⟨2, 24, [.d (.v (.string ByteArray.empty)), .d (.v (.int .u64 0))], .struct [(0, 1), (1, 1)]⟩),
  (14, ⟨2, 24, [.d (.v (.string ByteArray.empty)), .d (.v (.int .u64 0))], .struct [(0, 1), (1, 1)]⟩),
  (15, ⟨1, 8, [.d (.v (.pointer none))], .other⟩),
  (16, ⟨1, 8, [.d (.v (.pointer none))], .other⟩),
  (17, ⟨1, 8, [.d (.v (.pointer none))], .other⟩),
  (18, ⟨1, 8, [.d (.v (.pointer none))], .struct [(0, 1)]⟩),
  (19, ⟨1, 8, [.d (.v (.pointer none))], .struct [(0, 1)]⟩),
  (21, ⟨1, 4, [.d (.v (.int .i32 0))], .int .i32⟩),
  (22, ⟨1, 24, [.nilsl], .slice 40⟩),
  (24, ⟨1, 8, [.d (.v .nilFunc)], .other⟩),
  (25, ⟨1, 8, [.d (.v .nilFunc)], .other⟩),
  (26, ⟨1, 8, [.d (.v .nilFunc)], .other⟩),
  (27, ⟨1, 8, [.d (.v .nilFunc)], .other⟩),
  (28, ⟨3, 24, [.d (.v (.int .i64 0)), .d (.v (.int .i64 0)), .d (.v (.int .i64 0))], .struct [(0, 1), (1, 1), (2, 1)]⟩),
  (29, ⟨3, 24, [.d (.v (.int .i64 0)), .d (.v (.int .i64 0)), .d (.v (.int .i64 0))], .struct [(0, 1), (1, 1), (2, 1)]⟩),
  (30, ⟨1, 24, [.nilsl], .slice 119⟩),
  (31, ⟨3, 40, [.d (.v (.int .i64 0)), .d (.v (.int .i64 0)), .nilsl], .struct [(0, 1), (1, 1), (2, 1)]⟩),
  (32, ⟨3, 40, [.d (.v (.int .i64 0)), .d (.v (.int .i64 0)), .nilsl], .struct [(0, 1), (1, 1), (2, 1)]⟩),
  (33, ⟨1, 8, [.d (.v .nilFunc)], .other⟩),
  (35, ⟨1, 8, [.d (.v .nilFunc)], .other⟩),
  (36, ⟨3, 24, [.d (.v (.int .i64 0)), .d (.v (.int .i64 0)), .d (.v (.int .i64 0))], .struct [(0, 1), (1, 1), (2, 1)]⟩),
  (37, ⟨1, 8, [.d (.v .nilFunc)], .other⟩),
  (38, ⟨1, 24, [.nilsl], .slice 99⟩),
  (39, ⟨3, 40, [.d (.v (.int .i64 0)), .d (.v (.int .i64 0)), .nilsl], .struct [(0, 1), (1, 1), (2, 1)]⟩),
  (40, ⟨3, 40, [.d (.v (.int .i64 0)), .d (.v (.int .i64 0)), .nilsl], .struct [(0, 1), (1, 1), (2, 1)]⟩),
  (41, ⟨1, 8, [.d (.v .nilFunc)], .other⟩),
  (42, ⟨1, 8, [.d (.v .nilFunc)], .other⟩),
  (43, ⟨1, 8, [.d (.v .nilFunc)], .other⟩),
  (44, ⟨1, 24, [.nilsl], .slice 36⟩),
  (45, ⟨3, 40, [.d (.v (.int .i64 0)), .d (.v (.int .i64 0)), .nilsl], .struct [(0, 1), (1, 1), (2, 1)]⟩),
  (46, ⟨3, 40, [.d (.v (.int .i64 0)), .d (.v (.int .i64 0)), .nilsl], .struct [(0, 1), (1, 1), (2, 1)]⟩),
  (48, ⟨1, 8, [.d (.v .nilFunc)], .other⟩),
  (49, ⟨1, 8, [.d (.v .nilFunc)], .other⟩),
  (50, ⟨1, 8, [.d (.v .nilFunc)], .other⟩),
  (51, ⟨1, 8, [.d (.v .nilFunc)], .other⟩),
  (52, ⟨1, 8, [.d (.v .nilFunc)], .other⟩),
  (53, ⟨1, 24, [.nilsl], .slice 29⟩),
  (54, ⟨3, 40, [.d (.v (.int .i64 0)), .d (.v (.int .i64 0)), .nilsl], .struct [(0, 1), (1, 1), (2, 1)]⟩),
  (55, ⟨3, 40, [.d (.v (.int .i64 0)), .d (.v (.int .i64 0)), .nilsl], .struct [(0, 1), (1, 1), (2, 1)]⟩),
  (56, ⟨1, 8, [.d (.v .nilFunc)], .other⟩),
  (58, ⟨1, 8, [.d (.v .nilFunc)], .other⟩),
  (59, ⟨1, 8, [.d (.v .nilFunc)], .other⟩),
  (60, ⟨1, 8, [.d (.v .nilFunc)], .other⟩),
  (61, ⟨1, 8, [.d (.v .nilFunc)], .other⟩),
  (62, ⟨1, 24, [.nilsl], .slice 3⟩),
  (64, ⟨1, 8, [.d (.v .nilFunc)], .other⟩),
  (65, ⟨1, 8, [.d (.v .nilFunc)], .other⟩),
  (66, ⟨1, 8, [.d (.v .nilFunc)], .other⟩),
  (67, ⟨1, 8, [.d (.v .nilFunc)], .other⟩),
  (69, ⟨1, 8, [.d (.v .nilFunc)], .other⟩),
  (70, ⟨1, 8, [.d (.v .nilFunc)], .other⟩),
  (71, ⟨1, 8, [.d (.v .nilFunc)], .other⟩),
  (72, ⟨1, 8, [.d (.v .nilFunc)], .other⟩),
  (73, ⟨1, 8, [.d (.v .nilFunc)], .other⟩),
  (74, ⟨1, 8, [.d (.v .nilFunc)], .other⟩),
  (75, ⟨1, 8, [.d (.v .nilFunc)], .other⟩),
  (76, ⟨1, 8, [.d (.v .nilFunc)], .other⟩),
  (77, ⟨1, 8, [.d (.v .nilFunc)], .other⟩),
  (78, ⟨1, 8, [.d (.v .nilFunc)], .other⟩),
  (79, ⟨1, 8, [.d (.v .nilFunc)], .other⟩),
  (80, ⟨1, 8, [.d (.v .nilFunc)], .other⟩),
  (81, ⟨1, 8, [.d (.v .nilFunc)], .other⟩),
  (82, ⟨1, 8, [.d (.v .nilFunc)], .other⟩),
  (83, ⟨1, 8, [.d (.v .nilFunc)], .other⟩),
  (84, ⟨1, 8, [.d (.v .nilFunc)], .other⟩),
  (85, ⟨1, 8, [.d (.v .nilFunc)], .other⟩),
  (86, ⟨1, 8, [.d (.v .nilFunc)], .other⟩),
  (87, ⟨1, 8, [.d (.v .nilFunc)], .other⟩),
  (88, ⟨1, 8, [.d (.v .nilFunc)], .other⟩),
  (89, ⟨1, 8, [.d (.v .nilFunc)], .other⟩),
  (90, ⟨1, 8, [.d (.v .nilFunc)], .other⟩),
  (91, ⟨1, 8, [.d (.v .nilFunc)], .other⟩),
  (92, ⟨1, 8, [.d (.v .nilFunc)], .other⟩),
  (93, ⟨1, 8, [.d (.v .nilFunc)], .other⟩),
  (94, ⟨1, 8, [.d (.v .nilFunc)], .other⟩),
  (95, ⟨1, 8, [.d (.v .nilFunc)], .other⟩),
  (96, ⟨1, 24, [.nilsl], .slice 62⟩),
  (97, ⟨1, 8, [.d (.v .nilFunc)], .other⟩),
  (98, ⟨3, 24, [.d (.v (.int .i64 0)), .d (.v (.int .i64 0)), .d (.v (.int .i64 0))], .struct [(0, 1), (1, 1), (2, 1)]⟩),
  (99, ⟨3, 24, [.d (.v (.int .i64 0)), .d (.v (.int .i64 0)), .d (.v (.int .i64 0))], .struct [(0, 1), (1, 1), (2, 1)]⟩),
  (100, ⟨1, 8, [.d (.v .nilFunc)], .other⟩),
  (101, ⟨1, 8, [.d (.v .nilFunc)], .other⟩),
  (102, ⟨1, 8, [.d (.v .nilFunc)], .other⟩),
  (103, ⟨1, 8, [.d (.v .nilFunc)], .other⟩),
  (104, ⟨1, 8, [.d (.v .nilFunc)], .other⟩),
  (105, ⟨5, 40, [.d (.v (.int .i64 0)), .d (.v (.int .i64 0)), .d (.v (.int .i64 0)), .d (.v (.int .i64 0)), .d (.v (.int .i64 0))], .array 5 3⟩),
  (106, ⟨6, 64, [.nilsl, .d (.v (.int .i64 0)), .d (.v (.int .i64 0)), .d (.v (.int .i64 0)), .d (.v (.int .i64 0)), .d (.v (.int .i64 0))], .struct [(0, 1), (1, 5)]⟩),
  (107, ⟨6, 64, [.nilsl, .d (.v (.int .i64 0)), .d (.v (.int .i64 0)), .d (.v (.int .i64 0)), .d (.v (.int .i64 0)), .d (.v (.int .i64 0))], .struct [(0, 1), (1, 5)]⟩),
  (108, ⟨1, 8, [.d (.v .nilFunc)], .other⟩),
  (109, ⟨1, 8, [.d (.v (.map none))], .map 113 107⟩),
  (110, ⟨3, 24, [.d (.v (.int .i64 0)), .d (.v (.int .i64 0)), .d (.v (.map none))], .struct [(0, 1), (1, 1), (2, 1)]⟩),
  (111, ⟨3, 24, [.d (.v (.int .i64 0)), .d (.v (.int .i64 0)), .d (.v (.map none))], .struct [(0, 1), (1, 1), (2, 1)]⟩),
  (112, ⟨1, 8, [.d (.v .nilFunc)], .other⟩),
  (113, ⟨4, 32, [.d (.v (.int .i64 0)), .d (.v (.int .i64 0)), .d (.v (.int .i64 0)), .d (.v (.int .i64 0))], .array 4 3⟩),
  (115, ⟨1, 8, [.d (.v .nilFunc)], .other⟩),
  (116, ⟨1, 8, [.d (.v .nilFunc)], .other⟩),
  (117, ⟨1, 8, [.d (.v .nilFunc)], .other⟩),
  (118, ⟨1, 8, [.d (.v .nilFunc)], .other⟩),
  (119, ⟨3, 24, [.d (.v (.int .i64 0)), .d (.v (.int .i64 0)), .d (.v (.int .i64 0))], .struct [(0, 1), (1, 1), (2, 1)]⟩),
  (120, ⟨1, 8, [.d (.v .nilFunc)], .other⟩),
  (121, ⟨1, 8, [.d (.v .nilFunc)], .other⟩),
  (122, ⟨1, 8, [.d (.v .nilFunc)], .other⟩),
  (123, ⟨1, 8, [.d (.v .nilFunc)], .other⟩),
  (124, ⟨1, 8, [.d (.v .nilFunc)], .other⟩),
  (125, ⟨1, 8, [.d (.v .nilFunc)], .other⟩),
  (126, ⟨1, 8, [.d (.v .nilFunc)], .other⟩),
  (127, ⟨1, 8, [.d (.v .nilFunc)], .other⟩),
  (128, ⟨1, 8, [.d (.v .nilFunc)], .other⟩),
  (129, ⟨1, 8, [.d (.v .nilFunc)], .other⟩),
  (130, ⟨1, 8, [.d (.v .nilFunc)], .other⟩),
  (131, ⟨1, 8, [.d (.v .nilFunc)], .other⟩),
  (132, ⟨1, 8, [.d (.v .nilFunc)], .other⟩),
  (133, ⟨1, 8, [.d (.v .nilFunc)], .other⟩),
  (134, ⟨1, 8, [.d (.v .nilFunc)], .other⟩),
  (135, ⟨1, 8, [.d (.v .nilFunc)], .other⟩),
  (137, ⟨1, 8, [.d (.v .nilFunc)], .other⟩),
  (138, ⟨1, 8, [.d (.v .nilFunc)], .other⟩),
  (139, ⟨1, 8, [.d (.v .nilFunc)], .other⟩),
  (140, ⟨1, 8, [.d (.v .nilFunc)], .other⟩),
  (141, ⟨1, 8, [.d (.v .nilFunc)], .other⟩),
  (142, ⟨1, 8, [.d (.v .nilFunc)], .other⟩),
  (143, ⟨1, 8, [.d (.v (.pointer none))], .other⟩),
  (144, ⟨1, 8, [.d (.v .nilFunc)], .other⟩),
  (145, ⟨1, 8, [.d (.v .nilFunc)], .other⟩),
  (146, ⟨1, 8, [.d (.v .nilFunc)], .other⟩),
  (147, ⟨1, 8, [.d (.v .nilFunc)], .other⟩),
  (148, ⟨1, 8, [.d (.v .nilFunc)], .other⟩),
  (149, ⟨1, 8, [.d (.v .nilFunc)], .other⟩),
  (150, ⟨1, 24, [.nilsl], .slice 4⟩),
  (151, ⟨1, 8, [.d (.v .nilFunc)], .other⟩),
  (152, ⟨6, 80, [.d (.v (.int .i64 0)), .d (.v (.int .i64 0)), .nilsl, .nilsl, .d (.v (.int .i64 0)), .d (.v .nilFunc)], .struct [(0, 1), (1, 1), (2, 1), (3, 1), (4, 1), (5, 1)]⟩),
  (153, ⟨6, 80, [.d (.v (.int .i64 0)), .d (.v (.int .i64 0)), .nilsl, .nilsl, .d (.v (.int .i64 0)), .d (.v .nilFunc)], .struct [(0, 1), (1, 1), (2, 1), (3, 1), (4, 1), (5, 1)]⟩),
  (154, ⟨1, 8, [.d (.v .nilFunc)], .other⟩),
  (155, ⟨1, 8, [.d (.v .nilFunc)], .other⟩),
  (156, ⟨1, 8, [.d (.v (.pointer none))], .other⟩),
  (157, ⟨1, 8, [.d (.v .nilFunc)], .other⟩),
  (158, ⟨1, 8, [.d (.v .nilFunc)], .other⟩),
  (159, ⟨1, 8, [.d (.v .nilFunc)], .other⟩),
  (160, ⟨1, 8, [.d (.v (.int .u64 0))], .int .u64⟩),
  (161, ⟨1, 8, [.d (.v (.int .i64 0))], .int .i64⟩),
  (163, ⟨1, 8, [.d (.v .nilFunc)], .other⟩),
  (164, ⟨1, 8, [.d (.v .nilFunc)], .other⟩),
  (165, ⟨1, 8, [.d (.v .nilFunc)], .other⟩),
  (166, ⟨1, 8, [.d (.v .nilFunc)], .other⟩),
  (167, ⟨1, 8, [.d (.v .nilFunc)], .other⟩),
  (168, ⟨1, 4, [.d (.v (.int .u32 0))], .int .u32⟩),
  (169, ⟨1, 8, [.d (.v .nilFunc)], .other⟩),
  (170, ⟨1, 8, [.d (.v (.int .u64 0))], .int .u64⟩),
  (171, ⟨1, 8, [.d (.v (.int .u64 0))], .int .u64⟩),
  (172, ⟨1, 8, [.d (.v .nilFunc)], .other⟩),
  (173, ⟨1, 8, [.d (.v .nilFunc)], .other⟩),
  (174, ⟨1, 8, [.d (.v .nilFunc)], .other⟩),
  (175, ⟨1, 8, [.d (.v (.pointer none))], .other⟩),
  (176, ⟨1, 8, [.d (.v .nilFunc)], .other⟩),
  (177, ⟨1, 8, [.d (.v (.pointer none))], .other⟩),
  (179, ⟨1, 8, [.d (.v .nilFunc)], .other⟩),
  (180, ⟨1, 8, [.d (.v .nilFunc)], .other⟩),
  (181, ⟨4, 40, [.d (.v (.pointer none)), .d (.v (.pointer none)), .d (.v (.pointer none)), .d (.v (.string ByteArray.empty))], .struct [(0, 1), (1, 1), (2, 1), (3, 1)]⟩),
  (182, ⟨4, 40, [.d (.v (.pointer none)), .d (.v (.pointer none)), .d (.v (.pointer none)), .d (.v (.string ByteArray.empty))], .struct [(0, 1), (1, 1), (2, 1), (3, 1)]⟩),
  (183, ⟨0, 0, [], .array 0 16⟩),
  (184, ⟨0, 0, [], .struct [(0, 0)]⟩),
  (185, ⟨0, 0, [], .struct [(0, 0)]⟩),
  (186, ⟨1, 1, [.d (.v (.int .u8 0))], .int .u8⟩),
  (187, ⟨1, 1, [.d (.v (.int .u8 0))], .int .u8⟩),
  (188, ⟨1, 8, [.d (.v .nilFunc)], .other⟩),
  (189, ⟨1, 8, [.d (.v (.pointer none))], .other⟩),
  (190, ⟨1, 4, [.d (.v (.int .i32 0))], .int .i32⟩),
  (191, ⟨1, 4, [.d (.v (.int .i32 0))], .int .i32⟩),
  (192, ⟨11, 48, [.d (.v (.int .u64 0)), .d (.v (.int .u64 0)), .d (.v (.int .u32 0)), .d (.v (.int .u8 0)), .d (.v (.int .u8 0)), .d (.v (.int .u8 0)), .d (.v (.int .u8 0)), .d (.v .nilFunc), .d (.v (.pointer none)), .d (.v (.int .i32 0)), .d (.v (.int .i32 0))], .struct [(0, 1), (1, 1), (2, 1), (3, 1), (4, 1), (5, 1), (6, 1), (7, 1), (8, 1), (9, 1), (10, 1)]⟩),
  (193, ⟨11, 48, [.d (.v (.int .u64 0)), .d (.v (.int .u64 0)), .d (.v (.int .u32 0)), .d (.v (.int .u8 0)), .d (.v (.int .u8 0)), .d (.v (.int .u8 0)), .d (.v (.int .u8 0)), .d (.v .nilFunc), .d (.v (.pointer none)), .d (.v (.int .i32 0)), .d (.v (.int .i32 0))], .struct [(0, 1), (1, 1), (2, 1), (3, 1), (4, 1), (5, 1), (6, 1), (7, 1), (8, 1), (9, 1), (10, 1)]⟩),
  (194, ⟨1, 8, [.d (.v (.pointer none))], .other⟩)]
theorem tabOK : TabOK Try.prog tab := ⟨ty1, ty2, ty3, ty4, ty5, ty6, ty7, ty8, ty9, ty10, ty11, ty12, ty13, ty14, ty15, ty16, ty17, ty18, ty19, ty21, ty22, ty24, ty25, ty26, ty27, ty28, ty29, ty30, ty31, ty32, ty33, ty35, ty36, ty37, ty38, ty39, ty40, ty41, ty42, ty43, ty44, ty45, ty46, ty48, ty49, ty50, ty51, ty52, ty53, ty54, ty55, ty56, ty58, ty59, ty60, ty61, ty62, ty64, ty65, ty66, ty67, ty69, ty70, ty71, ty72, ty73, ty74, ty75, ty76, ty77, ty78, ty79, ty80, ty81, ty82, ty83, ty84, ty85, ty86, ty87, ty88, ty89, ty90, ty91, ty92, ty93, ty94, ty95, ty96, ty97, ty98, ty99, ty100, ty101, ty102, ty103, ty104, ty105, ty106, ty107, ty108, ty109, ty110, ty111, ty112, ty113, ty115, ty116, ty117, ty118, ty119, ty120, ty121, ty122, ty123, ty124, ty125, ty126, ty127, ty128, ty129, ty130, ty131, ty132, ty133, ty134, ty135, ty137, ty138, ty139, ty140, ty141, ty142, ty143, ty144, ty145, ty146, ty147, ty148, ty149, ty150, ty151, ty152, ty153, ty154, ty155, ty156, ty157, ty158, ty159, ty160, ty161, ty163, ty164, ty165, ty166, ty167, ty168, ty169, ty170, ty171, ty172, ty173, ty174, ty175, ty176, ty177, ty179, ty180, ty181, ty182, ty183, ty184, ty185, ty186, ty187, ty188, ty189, ty190, ty191, ty192, ty193, ty194, trivial⟩
noncomputable def G : Gen := { P := Try.prog, ty := getT tab, ok := fun _ _ h => getT_ok tabOK h, mixed := by kernel_rfl, sized := by kernel_rfl }
end Go.Proofs.Ytmfdkjjhdjkgpaa
