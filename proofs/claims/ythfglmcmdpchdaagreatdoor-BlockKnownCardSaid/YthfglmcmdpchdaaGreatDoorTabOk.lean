/- The tables are the program's. -/
import Derived.Test.YthfglmcmdpchdaaGreatDoorSxTop
import Derived.Test.YthfglmcmdpchdaaGreatDoorTab
import Derived.Test.YthfglmcmdpchdaaGreatDoorChecked
import Derived.KernelRfl
open Go Go.Sx
namespace Go.Proofs
set_option maxRecDepth 100000
theorem Tryz.ti1 : TIok Tryz.prog 1 ⟨.other, 1, 8, [.nilFunc]⟩ := ⟨by kernel_rfl, by kernel_rfl, by kernel_rfl, by kernel_rfl⟩
theorem Tryz.ti2 : TIok Tryz.prog 2 ⟨.int .i64, 1, 8, [.int .i64 0]⟩ := ⟨by kernel_rfl, by kernel_rfl, by kernel_rfl, by kernel_rfl⟩
theorem Tryz.ti3 : TIok Tryz.prog 3 ⟨.int .i64, 1, 8, [.int .i64 0]⟩ := ⟨by kernel_rfl, by kernel_rfl, by kernel_rfl, by kernel_rfl⟩
theorem Tryz.ti4 : TIok Tryz.prog 4 ⟨.other, 1, 1, [.bool false]⟩ := ⟨by kernel_rfl, by kernel_rfl, by kernel_rfl, by kernel_rfl⟩
theorem Tryz.ti5 : TIok Tryz.prog 5 ⟨.int .u8, 1, 1, [.int .u8 0]⟩ := ⟨by kernel_rfl, by kernel_rfl, by kernel_rfl, by kernel_rfl⟩
theorem Tryz.ti6 : TIok Tryz.prog 6 ⟨.int .u8, 1, 1, [.int .u8 0]⟩ := ⟨by kernel_rfl, by kernel_rfl, by kernel_rfl, by kernel_rfl⟩
theorem Tryz.ti7 : TIok Tryz.prog 7 ⟨.struct [(0, 2), (1, 3), (2, 4), (3, 6)], 4, 24, [.int .i64 0, .int .i64 0, .bool false, .int .u8 0]⟩ := ⟨by kernel_rfl, by kernel_rfl, by kernel_rfl, by kernel_rfl⟩
theorem Tryz.ti8 : TIok Tryz.prog 8 ⟨.struct [(0, 2), (1, 3), (2, 4), (3, 6)], 4, 24, [.int .i64 0, .int .i64 0, .bool false, .int .u8 0]⟩ := ⟨by kernel_rfl, by kernel_rfl, by kernel_rfl, by kernel_rfl⟩
theorem Tryz.ti9 : TIok Tryz.prog 9 ⟨.str, 1, 16, [.string ⟨#[]⟩]⟩ := ⟨by kernel_rfl, by kernel_rfl, by kernel_rfl, by kernel_rfl⟩
theorem Tryz.ti10 : TIok Tryz.prog 10 ⟨.str, 1, 16, [.string ⟨#[]⟩]⟩ := ⟨by kernel_rfl, by kernel_rfl, by kernel_rfl, by kernel_rfl⟩
theorem Tryz.ti11 : TIok Tryz.prog 11 ⟨.str, 1, 16, [.string ⟨#[]⟩]⟩ := ⟨by kernel_rfl, by kernel_rfl, by kernel_rfl, by kernel_rfl⟩
theorem Tryz.ti12 : TIok Tryz.prog 12 ⟨.int .u64, 1, 8, [.int .u64 0]⟩ := ⟨by kernel_rfl, by kernel_rfl, by kernel_rfl, by kernel_rfl⟩
theorem Tryz.ti13 : TIok Tryz.prog 13 ⟨.struct [(0, 9), (1, 12)], 2, 24, [.string ⟨#[]⟩, .int .u64 0]⟩ := ⟨by kernel_rfl, by kernel_rfl, by kernel_rfl, by kernel_rfl⟩
theorem Tryz.ti14 : TIok Tryz.prog 14 ⟨.struct [(0, 9), (1, 12)], 2, 24, [.string ⟨#[]⟩, .int .u64 0]⟩ := ⟨by kernel_rfl, by kernel_rfl, by kernel_rfl, by kernel_rfl⟩
theorem Tryz.ti15 : TIok Tryz.prog 15 ⟨.ptr 203, 1, 8, [.pointer none]⟩ := ⟨by kernel_rfl, by kernel_rfl, by kernel_rfl, by kernel_rfl⟩
theorem Tryz.ti16 : TIok Tryz.prog 16 ⟨.ptr 206, 1, 8, [.pointer none]⟩ := ⟨by kernel_rfl, by kernel_rfl, by kernel_rfl, by kernel_rfl⟩
theorem Tryz.ti17 : TIok Tryz.prog 17 ⟨.ptr 213, 1, 8, [.pointer none]⟩ := ⟨by kernel_rfl, by kernel_rfl, by kernel_rfl, by kernel_rfl⟩
theorem Tryz.ti18 : TIok Tryz.prog 18 ⟨.struct [(0, 17)], 1, 8, [.pointer none]⟩ := ⟨by kernel_rfl, by kernel_rfl, by kernel_rfl, by kernel_rfl⟩
theorem Tryz.ti19 : TIok Tryz.prog 19 ⟨.struct [(0, 17)], 1, 8, [.pointer none]⟩ := ⟨by kernel_rfl, by kernel_rfl, by kernel_rfl, by kernel_rfl⟩
theorem Tryz.ti20 : TIok Tryz.prog 20 ⟨.other, 1, 16, [.nilIface]⟩ := ⟨by kernel_rfl, by kernel_rfl, by kernel_rfl, by kernel_rfl⟩
theorem Tryz.ti21 : TIok Tryz.prog 21 ⟨.int .i32, 1, 4, [.int .i32 0]⟩ := ⟨by kernel_rfl, by kernel_rfl, by kernel_rfl, by kernel_rfl⟩
theorem Tryz.ti22 : TIok Tryz.prog 22 ⟨.slice 5, 1, 24, [.slice none 0 0]⟩ := ⟨by kernel_rfl, by kernel_rfl, by kernel_rfl, by kernel_rfl⟩
theorem Tryz.ti23 : TIok Tryz.prog 23 ⟨.other, 1, 8, [.nilFunc]⟩ := ⟨by kernel_rfl, by kernel_rfl, by kernel_rfl, by kernel_rfl⟩
theorem Tryz.ti24 : TIok Tryz.prog 24 ⟨.slice 69, 1, 24, [.slice none 0 0]⟩ := ⟨by kernel_rfl, by kernel_rfl, by kernel_rfl, by kernel_rfl⟩
theorem Tryz.ti25 : TIok Tryz.prog 25 ⟨.struct [(0, 3), (1, 24)], 2, 32, [.int .i64 0, .slice none 0 0]⟩ := ⟨by kernel_rfl, by kernel_rfl, by kernel_rfl, by kernel_rfl⟩
theorem Tryz.ti26 : TIok Tryz.prog 26 ⟨.struct [(0, 3), (1, 24)], 2, 32, [.int .i64 0, .slice none 0 0]⟩ := ⟨by kernel_rfl, by kernel_rfl, by kernel_rfl, by kernel_rfl⟩
theorem Tryz.ti27 : TIok Tryz.prog 27 ⟨.int .i64, 1, 8, [.int .i64 0]⟩ := ⟨by kernel_rfl, by kernel_rfl, by kernel_rfl, by kernel_rfl⟩
theorem Tryz.ti29 : TIok Tryz.prog 29 ⟨.other, 1, 8, [.nilFunc]⟩ := ⟨by kernel_rfl, by kernel_rfl, by kernel_rfl, by kernel_rfl⟩
theorem Tryz.ti30 : TIok Tryz.prog 30 ⟨.other, 1, 8, [.nilFunc]⟩ := ⟨by kernel_rfl, by kernel_rfl, by kernel_rfl, by kernel_rfl⟩
theorem Tryz.ti32 : TIok Tryz.prog 32 ⟨.other, 1, 8, [.nilFunc]⟩ := ⟨by kernel_rfl, by kernel_rfl, by kernel_rfl, by kernel_rfl⟩
theorem Tryz.ti33 : TIok Tryz.prog 33 ⟨.other, 1, 8, [.nilFunc]⟩ := ⟨by kernel_rfl, by kernel_rfl, by kernel_rfl, by kernel_rfl⟩
theorem Tryz.ti34 : TIok Tryz.prog 34 ⟨.other, 1, 8, [.nilFunc]⟩ := ⟨by kernel_rfl, by kernel_rfl, by kernel_rfl, by kernel_rfl⟩
theorem Tryz.ti35 : TIok Tryz.prog 35 ⟨.other, 1, 8, [.nilFunc]⟩ := ⟨by kernel_rfl, by kernel_rfl, by kernel_rfl, by kernel_rfl⟩
theorem Tryz.ti36 : TIok Tryz.prog 36 ⟨.other, 1, 8, [.nilFunc]⟩ := ⟨by kernel_rfl, by kernel_rfl, by kernel_rfl, by kernel_rfl⟩
theorem Tryz.ti37 : TIok Tryz.prog 37 ⟨.other, 1, 8, [.nilFunc]⟩ := ⟨by kernel_rfl, by kernel_rfl, by kernel_rfl, by kernel_rfl⟩
theorem Tryz.ti38 : TIok Tryz.prog 38 ⟨.other, 1, 8, [.nilFunc]⟩ := ⟨by kernel_rfl, by kernel_rfl, by kernel_rfl, by kernel_rfl⟩
theorem Tryz.ti39 : TIok Tryz.prog 39 ⟨.other, 1, 8, [.nilFunc]⟩ := ⟨by kernel_rfl, by kernel_rfl, by kernel_rfl, by kernel_rfl⟩
theorem Tryz.ti40 : TIok Tryz.prog 40 ⟨.other, 1, 8, [.nilFunc]⟩ := ⟨by kernel_rfl, by kernel_rfl, by kernel_rfl, by kernel_rfl⟩
theorem Tryz.ti41 : TIok Tryz.prog 41 ⟨.other, 1, 8, [.nilFunc]⟩ := ⟨by kernel_rfl, by kernel_rfl, by kernel_rfl, by kernel_rfl⟩
theorem Tryz.ti42 : TIok Tryz.prog 42 ⟨.other, 1, 8, [.nilFunc]⟩ := ⟨by kernel_rfl, by kernel_rfl, by kernel_rfl, by kernel_rfl⟩
theorem Tryz.ti43 : TIok Tryz.prog 43 ⟨.other, 1, 8, [.nilFunc]⟩ := ⟨by kernel_rfl, by kernel_rfl, by kernel_rfl, by kernel_rfl⟩
theorem Tryz.ti44 : TIok Tryz.prog 44 ⟨.other, 1, 8, [.nilFunc]⟩ := ⟨by kernel_rfl, by kernel_rfl, by kernel_rfl, by kernel_rfl⟩
theorem Tryz.ti45 : TIok Tryz.prog 45 ⟨.other, 1, 8, [.nilFunc]⟩ := ⟨by kernel_rfl, by kernel_rfl, by kernel_rfl, by kernel_rfl⟩
theorem Tryz.ti46 : TIok Tryz.prog 46 ⟨.other, 1, 8, [.nilFunc]⟩ := ⟨by kernel_rfl, by kernel_rfl, by kernel_rfl, by kernel_rfl⟩
theorem Tryz.ti47 : TIok Tryz.prog 47 ⟨.slice 3, 1, 24, [.slice none 0 0]⟩ := ⟨by kernel_rfl, by kernel_rfl, by kernel_rfl, by kernel_rfl⟩
theorem Tryz.ti49 : TIok Tryz.prog 49 ⟨.other, 1, 8, [.nilFunc]⟩ := ⟨by kernel_rfl, by kernel_rfl, by kernel_rfl, by kernel_rfl⟩
theorem Tryz.ti50 : TIok Tryz.prog 50 ⟨.other, 1, 8, [.nilFunc]⟩ := ⟨by kernel_rfl, by kernel_rfl, by kernel_rfl, by kernel_rfl⟩
theorem Tryz.ti51 : TIok Tryz.prog 51 ⟨.other, 1, 8, [.nilFunc]⟩ := ⟨by kernel_rfl, by kernel_rfl, by kernel_rfl, by kernel_rfl⟩
theorem Tryz.ti52 : TIok Tryz.prog 52 ⟨.other, 1, 8, [.nilFunc]⟩ := ⟨by kernel_rfl, by kernel_rfl, by kernel_rfl, by kernel_rfl⟩
theorem Tryz.ti53 : TIok Tryz.prog 53 ⟨.other, 1, 8, [.nilFunc]⟩ := ⟨by kernel_rfl, by kernel_rfl, by kernel_rfl, by kernel_rfl⟩
theorem Tryz.ti54 : TIok Tryz.prog 54 ⟨.other, 1, 8, [.nilFunc]⟩ := ⟨by kernel_rfl, by kernel_rfl, by kernel_rfl, by kernel_rfl⟩
theorem Tryz.ti55 : TIok Tryz.prog 55 ⟨.other, 1, 8, [.nilFunc]⟩ := ⟨by kernel_rfl, by kernel_rfl, by kernel_rfl, by kernel_rfl⟩
theorem Tryz.ti56 : TIok Tryz.prog 56 ⟨.other, 1, 8, [.nilFunc]⟩ := ⟨by kernel_rfl, by kernel_rfl, by kernel_rfl, by kernel_rfl⟩
theorem Tryz.ti57 : TIok Tryz.prog 57 ⟨.other, 1, 8, [.nilFunc]⟩ := ⟨by kernel_rfl, by kernel_rfl, by kernel_rfl, by kernel_rfl⟩
theorem Tryz.ti58 : TIok Tryz.prog 58 ⟨.ptr 60, 1, 8, [.pointer none]⟩ := ⟨by kernel_rfl, by kernel_rfl, by kernel_rfl, by kernel_rfl⟩
theorem Tryz.ti59 : TIok Tryz.prog 59 ⟨.struct [(0, 22), (1, 3)], 2, 32, [.slice none 0 0, .int .i64 0]⟩ := ⟨by kernel_rfl, by kernel_rfl, by kernel_rfl, by kernel_rfl⟩
theorem Tryz.ti60 : TIok Tryz.prog 60 ⟨.struct [(0, 22), (1, 3)], 2, 32, [.slice none 0 0, .int .i64 0]⟩ := ⟨by kernel_rfl, by kernel_rfl, by kernel_rfl, by kernel_rfl⟩
theorem Tryz.ti61 : TIok Tryz.prog 61 ⟨.struct [(0, 26), (2, 4)], 3, 40, [.int .i64 0, .slice none 0 0, .bool false]⟩ := ⟨by kernel_rfl, by kernel_rfl, by kernel_rfl, by kernel_rfl⟩
theorem Tryz.ti62 : TIok Tryz.prog 62 ⟨.struct [(0, 26), (2, 4)], 3, 40, [.int .i64 0, .slice none 0 0, .bool false]⟩ := ⟨by kernel_rfl, by kernel_rfl, by kernel_rfl, by kernel_rfl⟩
theorem Tryz.ti64 : TIok Tryz.prog 64 ⟨.other, 1, 8, [.nilFunc]⟩ := ⟨by kernel_rfl, by kernel_rfl, by kernel_rfl, by kernel_rfl⟩
theorem Tryz.ti65 : TIok Tryz.prog 65 ⟨.other, 1, 8, [.nilFunc]⟩ := ⟨by kernel_rfl, by kernel_rfl, by kernel_rfl, by kernel_rfl⟩
theorem Tryz.ti66 : TIok Tryz.prog 66 ⟨.other, 1, 8, [.nilFunc]⟩ := ⟨by kernel_rfl, by kernel_rfl, by kernel_rfl, by kernel_rfl⟩
theorem Tryz.ti67 : TIok Tryz.prog 67 ⟨.other, 1, 8, [.nilFunc]⟩ := ⟨by kernel_rfl, by kernel_rfl, by kernel_rfl, by kernel_rfl⟩
theorem Tryz.ti68 : TIok Tryz.prog 68 ⟨.struct [(0, 3), (1, 3)], 2, 16, [.int .i64 0, .int .i64 0]⟩ := ⟨by kernel_rfl, by kernel_rfl, by kernel_rfl, by kernel_rfl⟩
theorem Tryz.ti69 : TIok Tryz.prog 69 ⟨.struct [(0, 3), (1, 3)], 2, 16, [.int .i64 0, .int .i64 0]⟩ := ⟨by kernel_rfl, by kernel_rfl, by kernel_rfl, by kernel_rfl⟩
theorem Tryz.ti70 : TIok Tryz.prog 70 ⟨.other, 1, 8, [.nilFunc]⟩ := ⟨by kernel_rfl, by kernel_rfl, by kernel_rfl, by kernel_rfl⟩
theorem Tryz.ti71 : TIok Tryz.prog 71 ⟨.ptr 73, 1, 8, [.pointer none]⟩ := ⟨by kernel_rfl, by kernel_rfl, by kernel_rfl, by kernel_rfl⟩
theorem Tryz.ti72 : TIok Tryz.prog 72 ⟨.struct [(0, 71), (1, 22)], 2, 32, [.pointer none, .slice none 0 0]⟩ := ⟨by kernel_rfl, by kernel_rfl, by kernel_rfl, by kernel_rfl⟩
theorem Tryz.ti73 : TIok Tryz.prog 73 ⟨.struct [(0, 71), (1, 22)], 2, 32, [.pointer none, .slice none 0 0]⟩ := ⟨by kernel_rfl, by kernel_rfl, by kernel_rfl, by kernel_rfl⟩
theorem Tryz.ti74 : TIok Tryz.prog 74 ⟨.other, 1, 16, [.nilIface]⟩ := ⟨by kernel_rfl, by kernel_rfl, by kernel_rfl, by kernel_rfl⟩
theorem Tryz.ti75 : TIok Tryz.prog 75 ⟨.other, 1, 16, [.nilIface]⟩ := ⟨by kernel_rfl, by kernel_rfl, by kernel_rfl, by kernel_rfl⟩
theorem Tryz.ti76 : TIok Tryz.prog 76 ⟨.other, 1, 8, [.nilFunc]⟩ := ⟨by kernel_rfl, by kernel_rfl, by kernel_rfl, by kernel_rfl⟩
theorem Tryz.ti77 : TIok Tryz.prog 77 ⟨.other, 1, 8, [.nilFunc]⟩ := ⟨by kernel_rfl, by kernel_rfl, by kernel_rfl, by kernel_rfl⟩
theorem Tryz.ti79 : TIok Tryz.prog 79 ⟨.other, 1, 8, [.nilFunc]⟩ := ⟨by kernel_rfl, by kernel_rfl, by kernel_rfl, by kernel_rfl⟩
theorem Tryz.ti80 : TIok Tryz.prog 80 ⟨.other, 1, 8, [.nilFunc]⟩ := ⟨by kernel_rfl, by kernel_rfl, by kernel_rfl, by kernel_rfl⟩
theorem Tryz.ti81 : TIok Tryz.prog 81 ⟨.other, 1, 8, [.nilFunc]⟩ := ⟨by kernel_rfl, by kernel_rfl, by kernel_rfl, by kernel_rfl⟩
theorem Tryz.ti82 : TIok Tryz.prog 82 ⟨.array 2 81, 2, 16, [.nilFunc, .nilFunc]⟩ := ⟨by kernel_rfl, by kernel_rfl, by kernel_rfl, by kernel_rfl⟩
theorem Tryz.ti83 : TIok Tryz.prog 83 ⟨.other, 1, 8, [.nilFunc]⟩ := ⟨by kernel_rfl, by kernel_rfl, by kernel_rfl, by kernel_rfl⟩
theorem Tryz.ti84 : TIok Tryz.prog 84 ⟨.other, 1, 8, [.nilFunc]⟩ := ⟨by kernel_rfl, by kernel_rfl, by kernel_rfl, by kernel_rfl⟩
theorem Tryz.ti85 : TIok Tryz.prog 85 ⟨.other, 1, 8, [.nilFunc]⟩ := ⟨by kernel_rfl, by kernel_rfl, by kernel_rfl, by kernel_rfl⟩
theorem Tryz.ti87 : TIok Tryz.prog 87 ⟨.other, 1, 8, [.nilFunc]⟩ := ⟨by kernel_rfl, by kernel_rfl, by kernel_rfl, by kernel_rfl⟩
theorem Tryz.ti88 : TIok Tryz.prog 88 ⟨.int .u64, 1, 8, [.int .u64 0]⟩ := ⟨by kernel_rfl, by kernel_rfl, by kernel_rfl, by kernel_rfl⟩
theorem Tryz.ti89 : TIok Tryz.prog 89 ⟨.other, 1, 8, [.nilFunc]⟩ := ⟨by kernel_rfl, by kernel_rfl, by kernel_rfl, by kernel_rfl⟩
theorem Tryz.ti90 : TIok Tryz.prog 90 ⟨.other, 1, 8, [.nilFunc]⟩ := ⟨by kernel_rfl, by kernel_rfl, by kernel_rfl, by kernel_rfl⟩
theorem Tryz.ti91 : TIok Tryz.prog 91 ⟨.other, 1, 8, [.nilFunc]⟩ := ⟨by kernel_rfl, by kernel_rfl, by kernel_rfl, by kernel_rfl⟩
theorem Tryz.ti92 : TIok Tryz.prog 92 ⟨.other, 1, 8, [.nilFunc]⟩ := ⟨by kernel_rfl, by kernel_rfl, by kernel_rfl, by kernel_rfl⟩
theorem Tryz.ti93 : TIok Tryz.prog 93 ⟨.other, 1, 8, [.nilFunc]⟩ := ⟨by kernel_rfl, by kernel_rfl, by kernel_rfl, by kernel_rfl⟩
theorem Tryz.ti94 : TIok Tryz.prog 94 ⟨.other, 1, 8, [.nilFunc]⟩ := ⟨by kernel_rfl, by kernel_rfl, by kernel_rfl, by kernel_rfl⟩
theorem Tryz.ti95 : TIok Tryz.prog 95 ⟨.other, 1, 8, [.nilFunc]⟩ := ⟨by kernel_rfl, by kernel_rfl, by kernel_rfl, by kernel_rfl⟩
theorem Tryz.ti96 : TIok Tryz.prog 96 ⟨.other, 1, 8, [.nilFunc]⟩ := ⟨by kernel_rfl, by kernel_rfl, by kernel_rfl, by kernel_rfl⟩
theorem Tryz.ti97 : TIok Tryz.prog 97 ⟨.other, 1, 8, [.nilFunc]⟩ := ⟨by kernel_rfl, by kernel_rfl, by kernel_rfl, by kernel_rfl⟩
theorem Tryz.ti98 : TIok Tryz.prog 98 ⟨.other, 1, 8, [.nilFunc]⟩ := ⟨by kernel_rfl, by kernel_rfl, by kernel_rfl, by kernel_rfl⟩
theorem Tryz.ti99 : TIok Tryz.prog 99 ⟨.ptr 5, 1, 8, [.pointer none]⟩ := ⟨by kernel_rfl, by kernel_rfl, by kernel_rfl, by kernel_rfl⟩
theorem Tryz.ti101 : TIok Tryz.prog 101 ⟨.other, 1, 8, [.nilFunc]⟩ := ⟨by kernel_rfl, by kernel_rfl, by kernel_rfl, by kernel_rfl⟩
theorem Tryz.ti102 : TIok Tryz.prog 102 ⟨.slice 9, 1, 24, [.slice none 0 0]⟩ := ⟨by kernel_rfl, by kernel_rfl, by kernel_rfl, by kernel_rfl⟩
theorem Tryz.ti104 : TIok Tryz.prog 104 ⟨.other, 1, 8, [.nilFunc]⟩ := ⟨by kernel_rfl, by kernel_rfl, by kernel_rfl, by kernel_rfl⟩
theorem Tryz.ti105 : TIok Tryz.prog 105 ⟨.other, 1, 8, [.nilFunc]⟩ := ⟨by kernel_rfl, by kernel_rfl, by kernel_rfl, by kernel_rfl⟩
theorem Tryz.ti106 : TIok Tryz.prog 106 ⟨.array 64 3, 64, 512, [.int .i64 0, .int .i64 0, .int .i64 0, .int .i64 0, .int .i64 0, .int .i64 0, .int .i64 0, .int .i64 0, .int .i64 0, .int .i64 0, .int .i64 0, .int .i64 0, .int .i64 0, .int .i64 0, .int .i64 0, .int .i64 0, .int .i64 0, .int .i64 0, .int .i64 0, .int .i64 0, .int .i64 0, .int .i64 0, .int .i64 0, .int .i64 0, .int .i64 0, .int .i64 0, .int .i64 0, .int .i64 0, .int .i64 0, .int .i64 0, .int .i64 0, .int .i64 0, .int .i64 0, .int .i64 0, .int .i64 0, .int .i64 0, .int .i64 0, .int .i64 0, .int .i64 0, .int .i64 0, .int .i64 0, .int .i64 0, .int .i64 0, .int .i64 0, .int .i64 0, .int .i64 0, .int .i64 0, .int .i64 0, .int .i64 0, .int .i64 0, .int .i64 0, .int .i64 0, .int .i64 0, .int .i64 0, .int .i64 0, .int .i64 0, .int .i64 0, .int .i64 0, .int .i64 0, .int .i64 0, .int .i64 0, .int .i64 0, .int .i64 0, .int .i64 0]⟩ := ⟨by kernel_rfl, by kernel_rfl, by kernel_rfl, by kernel_rfl⟩
theorem Tryz.ti107 : TIok Tryz.prog 107 ⟨.other, 1, 8, [.nilFunc]⟩ := ⟨by kernel_rfl, by kernel_rfl, by kernel_rfl, by kernel_rfl⟩
theorem Tryz.ti108 : TIok Tryz.prog 108 ⟨.other, 1, 8, [.nilFunc]⟩ := ⟨by kernel_rfl, by kernel_rfl, by kernel_rfl, by kernel_rfl⟩
theorem Tryz.ti109 : TIok Tryz.prog 109 ⟨.other, 1, 8, [.nilFunc]⟩ := ⟨by kernel_rfl, by kernel_rfl, by kernel_rfl, by kernel_rfl⟩
theorem Tryz.ti110 : TIok Tryz.prog 110 ⟨.other, 1, 8, [.nilFunc]⟩ := ⟨by kernel_rfl, by kernel_rfl, by kernel_rfl, by kernel_rfl⟩
theorem Tryz.ti111 : TIok Tryz.prog 111 ⟨.array 8 3, 8, 64, [.int .i64 0, .int .i64 0, .int .i64 0, .int .i64 0, .int .i64 0, .int .i64 0, .int .i64 0, .int .i64 0]⟩ := ⟨by kernel_rfl, by kernel_rfl, by kernel_rfl, by kernel_rfl⟩
theorem Tryz.ti112 : TIok Tryz.prog 112 ⟨.array 8 111, 64, 512, [.int .i64 0, .int .i64 0, .int .i64 0, .int .i64 0, .int .i64 0, .int .i64 0, .int .i64 0, .int .i64 0, .int .i64 0, .int .i64 0, .int .i64 0, .int .i64 0, .int .i64 0, .int .i64 0, .int .i64 0, .int .i64 0, .int .i64 0, .int .i64 0, .int .i64 0, .int .i64 0, .int .i64 0, .int .i64 0, .int .i64 0, .int .i64 0, .int .i64 0, .int .i64 0, .int .i64 0, .int .i64 0, .int .i64 0, .int .i64 0, .int .i64 0, .int .i64 0, .int .i64 0, .int .i64 0, .int .i64 0, .int .i64 0, .int .i64 0, .int .i64 0, .int .i64 0, .int .i64 0, .int .i64 0, .int .i64 0, .int .i64 0, .int .i64 0, .int .i64 0, .int .i64 0, .int .i64 0, .int .i64 0, .int .i64 0, .int .i64 0, .int .i64 0, .int .i64 0, .int .i64 0, .int .i64 0, .int .i64 0, .int .i64 0, .int .i64 0, .int .i64 0, .int .i64 0, .int .i64 0, .int .i64 0, .int .i64 0, .int .i64 0, .int .i64 0]⟩ := ⟨by kernel_rfl, by kernel_rfl, by kernel_rfl, by kernel_rfl⟩
theorem Tryz.ti113 : TIok Tryz.prog 113 ⟨.other, 1, 8, [.nilFunc]⟩ := ⟨by kernel_rfl, by kernel_rfl, by kernel_rfl, by kernel_rfl⟩
theorem Tryz.ti114 : TIok Tryz.prog 114 ⟨.other, 1, 8, [.nilFunc]⟩ := ⟨by kernel_rfl, by kernel_rfl, by kernel_rfl, by kernel_rfl⟩
theorem Tryz.ti115 : TIok Tryz.prog 115 ⟨.ptr 106, 1, 8, [.pointer none]⟩ := ⟨by kernel_rfl, by kernel_rfl, by kernel_rfl, by kernel_rfl⟩
theorem Tryz.ti116 : TIok Tryz.prog 116 ⟨.ptr 112, 1, 8, [.pointer none]⟩ := ⟨by kernel_rfl, by kernel_rfl, by kernel_rfl, by kernel_rfl⟩
theorem Tryz.ti117 : TIok Tryz.prog 117 ⟨.other, 1, 8, [.nilFunc]⟩ := ⟨by kernel_rfl, by kernel_rfl, by kernel_rfl, by kernel_rfl⟩
theorem Tryz.ti118 : TIok Tryz.prog 118 ⟨.other, 1, 8, [.nilFunc]⟩ := ⟨by kernel_rfl, by kernel_rfl, by kernel_rfl, by kernel_rfl⟩
theorem Tryz.ti119 : TIok Tryz.prog 119 ⟨.int .i8, 1, 1, [.int .i8 0]⟩ := ⟨by kernel_rfl, by kernel_rfl, by kernel_rfl, by kernel_rfl⟩
theorem Tryz.ti120 : TIok Tryz.prog 120 ⟨.other, 1, 8, [.nilFunc]⟩ := ⟨by kernel_rfl, by kernel_rfl, by kernel_rfl, by kernel_rfl⟩
theorem Tryz.ti121 : TIok Tryz.prog 121 ⟨.other, 1, 8, [.nilFunc]⟩ := ⟨by kernel_rfl, by kernel_rfl, by kernel_rfl, by kernel_rfl⟩
theorem Tryz.ti122 : TIok Tryz.prog 122 ⟨.other, 1, 8, [.nilFunc]⟩ := ⟨by kernel_rfl, by kernel_rfl, by kernel_rfl, by kernel_rfl⟩
theorem Tryz.ti123 : TIok Tryz.prog 123 ⟨.other, 1, 8, [.nilFunc]⟩ := ⟨by kernel_rfl, by kernel_rfl, by kernel_rfl, by kernel_rfl⟩
theorem Tryz.ti124 : TIok Tryz.prog 124 ⟨.uptr, 1, 8, [.pointer none]⟩ := ⟨by kernel_rfl, by kernel_rfl, by kernel_rfl, by kernel_rfl⟩
theorem Tryz.ti125 : TIok Tryz.prog 125 ⟨.other, 1, 8, [.nilFunc]⟩ := ⟨by kernel_rfl, by kernel_rfl, by kernel_rfl, by kernel_rfl⟩
theorem Tryz.ti126 : TIok Tryz.prog 126 ⟨.other, 1, 8, [.nilFunc]⟩ := ⟨by kernel_rfl, by kernel_rfl, by kernel_rfl, by kernel_rfl⟩
theorem Tryz.ti127 : TIok Tryz.prog 127 ⟨.other, 1, 8, [.nilFunc]⟩ := ⟨by kernel_rfl, by kernel_rfl, by kernel_rfl, by kernel_rfl⟩
theorem Tryz.ti128 : TIok Tryz.prog 128 ⟨.ptr 148, 1, 8, [.pointer none]⟩ := ⟨by kernel_rfl, by kernel_rfl, by kernel_rfl, by kernel_rfl⟩
theorem Tryz.ti130 : TIok Tryz.prog 130 ⟨.other, 1, 8, [.nilFunc]⟩ := ⟨by kernel_rfl, by kernel_rfl, by kernel_rfl, by kernel_rfl⟩
theorem Tryz.ti131 : TIok Tryz.prog 131 ⟨.other, 1, 8, [.nilFunc]⟩ := ⟨by kernel_rfl, by kernel_rfl, by kernel_rfl, by kernel_rfl⟩
theorem Tryz.ti132 : TIok Tryz.prog 132 ⟨.other, 1, 8, [.nilFunc]⟩ := ⟨by kernel_rfl, by kernel_rfl, by kernel_rfl, by kernel_rfl⟩
theorem Tryz.ti133 : TIok Tryz.prog 133 ⟨.other, 1, 8, [.nilFunc]⟩ := ⟨by kernel_rfl, by kernel_rfl, by kernel_rfl, by kernel_rfl⟩
theorem Tryz.ti134 : TIok Tryz.prog 134 ⟨.other, 1, 8, [.nilFunc]⟩ := ⟨by kernel_rfl, by kernel_rfl, by kernel_rfl, by kernel_rfl⟩
theorem Tryz.ti135 : TIok Tryz.prog 135 ⟨.other, 1, 8, [.nilFunc]⟩ := ⟨by kernel_rfl, by kernel_rfl, by kernel_rfl, by kernel_rfl⟩
theorem Tryz.ti136 : TIok Tryz.prog 136 ⟨.other, 1, 8, [.nilFunc]⟩ := ⟨by kernel_rfl, by kernel_rfl, by kernel_rfl, by kernel_rfl⟩
theorem Tryz.ti137 : TIok Tryz.prog 137 ⟨.other, 1, 8, [.nilFunc]⟩ := ⟨by kernel_rfl, by kernel_rfl, by kernel_rfl, by kernel_rfl⟩
theorem Tryz.ti138 : TIok Tryz.prog 138 ⟨.other, 1, 8, [.nilFunc]⟩ := ⟨by kernel_rfl, by kernel_rfl, by kernel_rfl, by kernel_rfl⟩
theorem Tryz.ti139 : TIok Tryz.prog 139 ⟨.other, 1, 8, [.nilFunc]⟩ := ⟨by kernel_rfl, by kernel_rfl, by kernel_rfl, by kernel_rfl⟩
theorem Tryz.ti140 : TIok Tryz.prog 140 ⟨.other, 1, 8, [.nilFunc]⟩ := ⟨by kernel_rfl, by kernel_rfl, by kernel_rfl, by kernel_rfl⟩
theorem Tryz.ti141 : TIok Tryz.prog 141 ⟨.other, 1, 8, [.nilFunc]⟩ := ⟨by kernel_rfl, by kernel_rfl, by kernel_rfl, by kernel_rfl⟩
theorem Tryz.ti142 : TIok Tryz.prog 142 ⟨.other, 1, 8, [.nilFunc]⟩ := ⟨by kernel_rfl, by kernel_rfl, by kernel_rfl, by kernel_rfl⟩
theorem Tryz.ti144 : TIok Tryz.prog 144 ⟨.other, 1, 8, [.nilFunc]⟩ := ⟨by kernel_rfl, by kernel_rfl, by kernel_rfl, by kernel_rfl⟩
theorem Tryz.ti145 : TIok Tryz.prog 145 ⟨.other, 1, 8, [.nilFunc]⟩ := ⟨by kernel_rfl, by kernel_rfl, by kernel_rfl, by kernel_rfl⟩
theorem Tryz.ti146 : TIok Tryz.prog 146 ⟨.other, 1, 8, [.nilFunc]⟩ := ⟨by kernel_rfl, by kernel_rfl, by kernel_rfl, by kernel_rfl⟩
theorem Tryz.ti147 : TIok Tryz.prog 147 ⟨.struct [(0, 102), (1, 47)], 2, 48, [.slice none 0 0, .slice none 0 0]⟩ := ⟨by kernel_rfl, by kernel_rfl, by kernel_rfl, by kernel_rfl⟩
theorem Tryz.ti148 : TIok Tryz.prog 148 ⟨.struct [(0, 102), (1, 47)], 2, 48, [.slice none 0 0, .slice none 0 0]⟩ := ⟨by kernel_rfl, by kernel_rfl, by kernel_rfl, by kernel_rfl⟩
theorem Tryz.ti149 : TIok Tryz.prog 149 ⟨.array 2 138, 2, 16, [.nilFunc, .nilFunc]⟩ := ⟨by kernel_rfl, by kernel_rfl, by kernel_rfl, by kernel_rfl⟩
theorem Tryz.ti150 : TIok Tryz.prog 150 ⟨.array 9 3, 9, 72, [.int .i64 0, .int .i64 0, .int .i64 0, .int .i64 0, .int .i64 0, .int .i64 0, .int .i64 0, .int .i64 0, .int .i64 0]⟩ := ⟨by kernel_rfl, by kernel_rfl, by kernel_rfl, by kernel_rfl⟩
theorem Tryz.ti151 : TIok Tryz.prog 151 ⟨.other, 1, 8, [.nilFunc]⟩ := ⟨by kernel_rfl, by kernel_rfl, by kernel_rfl, by kernel_rfl⟩
theorem Tryz.ti152 : TIok Tryz.prog 152 ⟨.other, 1, 8, [.nilFunc]⟩ := ⟨by kernel_rfl, by kernel_rfl, by kernel_rfl, by kernel_rfl⟩
theorem Tryz.ti153 : TIok Tryz.prog 153 ⟨.array 256 5, 256, 256, [.int .u8 0, .int .u8 0, .int .u8 0, .int .u8 0, .int .u8 0, .int .u8 0, .int .u8 0, .int .u8 0, .int .u8 0, .int .u8 0, .int .u8 0, .int .u8 0, .int .u8 0, .int .u8 0, .int .u8 0, .int .u8 0, .int .u8 0, .int .u8 0, .int .u8 0, .int .u8 0, .int .u8 0, .int .u8 0, .int .u8 0, .int .u8 0, .int .u8 0, .int .u8 0, .int .u8 0, .int .u8 0, .int .u8 0, .int .u8 0, .int .u8 0, .int .u8 0, .int .u8 0, .int .u8 0, .int .u8 0, .int .u8 0, .int .u8 0, .int .u8 0, .int .u8 0, .int .u8 0, .int .u8 0, .int .u8 0, .int .u8 0, .int .u8 0, .int .u8 0, .int .u8 0, .int .u8 0, .int .u8 0, .int .u8 0, .int .u8 0, .int .u8 0, .int .u8 0, .int .u8 0, .int .u8 0, .int .u8 0, .int .u8 0, .int .u8 0, .int .u8 0, .int .u8 0, .int .u8 0, .int .u8 0, .int .u8 0, .int .u8 0, .int .u8 0, .int .u8 0, .int .u8 0, .int .u8 0, .int .u8 0, .int .u8 0, .int .u8 0, .int .u8 0, .int .u8 0, .int .u8 0, .int .u8 0, .int .u8 0, .int .u8 0, .int .u8 0, .int .u8 0, .int .u8 0, .int .u8 0, .int .u8 0, .int .u8 0, .int .u8 0, .int .u8 0, .int .u8 0, .int .u8 0, .int .u8 0, .int .u8 0, .int .u8 0, .int .u8 0, .int .u8 0, .int .u8 0, .int .u8 0, .int .u8 0, .int .u8 0, .int .u8 0, .int .u8 0, .int .u8 0, .int .u8 0, .int .u8 0, .int .u8 0, .int .u8 0, .int .u8 0, .int .u8 0, .int .u8 0, .int .u8 0, .int .u8 0, .int .u8 0, .int .u8 0, .int .u8 0, .int .u8 0, .int .u8 0, .int .u8 0, .int .u8 0, .int .u8 0, .int .u8 0, .int .u8 0, .int .u8 0, .int .u8 0, .int .u8 0, .int .u8 0, .int .u8 0, .int .u8 0, .int .u8 0, .int .u8 0, .int .u8 0, .int .u8 0, .int .u8 0, .int .u8 0, .int .u8 0, .int .u8 0, .int .u8 0, .int .u8 0, .int .u8 0, .int .u8 0, .int .u8 0, .int .u8 0, .int .u8 0, .int .u8 0, .int .u8 0, .int .u8 0, .int .u8 0, .int .u8 0, .int .u8 0, .int .u8 0, .int .u8 0, .int .u8 0, .int .u8 0, .int .u8 0, .int .u8 0, .int .u8 0, .int .u8 0, .int .u8 0, .int .u8 0, .int .u8 0, .int .u8 0, .int .u8 0, .int .u8 0, .int .u8 0, .int .u8 0, .int .u8 0, .int .u8 0, .int .u8 0, .int .u8 0, .int .u8 0, .int .u8 0, .int .u8 0, .int .u8 0, .int .u8 0, .int .u8 0, .int .u8 0, .int .u8 0, .int .u8 0, .int .u8 0, .int .u8 0, .int .u8 0, .int .u8 0, .int .u8 0, .int .u8 0, .int .u8 0, .int .u8 0, .int .u8 0, .int .u8 0, .int .u8 0, .int .u8 0, .int .u8 0, .int .u8 0, .int .u8 0, .int .u8 0, .int .u8 0, .int .u8 0, .int .u8 0, .int .u8 0, .int .u8 0, .int .u8 0, .int .u8 0, .int .u8 0, .int .u8 0, .int .u8 0, .int .u8 0, .int .u8 0, .int .u8 0, .int .u8 0, .int .u8 0, .int .u8 0, .int .u8 0, .int .u8 0, .int .u8 0, .int .u8 0, .int .u8 0, .int .u8 0, .int .u8 0, .int .u8 0, .int .u8 0, .int .u8 0, .int .u8 0, .int .u8 0, .int .u8 0, .int .u8 0, .int .u8 0, .int .u8 0, .int .u8 0, .int .u8 0, .int .u8 0, .int .u8 0, .int .u8 0, .int .u8 0, .int .u8 0, .int .u8 0, .int .u8 0, .int .u8 0, .int .u8 0, .int .u8 0, .int .u8 0, .int .u8 0, .int .u8 0, .int .u8 0, .int .u8 0, .int .u8 0, .int .u8 0, .int .u8 0, .int .u8 0, .int .u8 0, .int .u8 0, .int .u8 0, .int .u8 0, .int .u8 0, .int .u8 0, .int .u8 0, .int .u8 0, .int .u8 0, .int .u8 0, .int .u8 0, .int .u8 0, .int .u8 0, .int .u8 0]⟩ := ⟨by kernel_rfl, by kernel_rfl, by kernel_rfl, by kernel_rfl⟩
theorem Tryz.ti154 : TIok Tryz.prog 154 ⟨.other, 1, 8, [.nilFunc]⟩ := ⟨by kernel_rfl, by kernel_rfl, by kernel_rfl, by kernel_rfl⟩
theorem Tryz.ti155 : TIok Tryz.prog 155 ⟨.other, 1, 8, [.nilFunc]⟩ := ⟨by kernel_rfl, by kernel_rfl, by kernel_rfl, by kernel_rfl⟩
theorem Tryz.ti156 : TIok Tryz.prog 156 ⟨.other, 1, 8, [.nilFunc]⟩ := ⟨by kernel_rfl, by kernel_rfl, by kernel_rfl, by kernel_rfl⟩
theorem Tryz.ti157 : TIok Tryz.prog 157 ⟨.array 24 5, 24, 24, [.int .u8 0, .int .u8 0, .int .u8 0, .int .u8 0, .int .u8 0, .int .u8 0, .int .u8 0, .int .u8 0, .int .u8 0, .int .u8 0, .int .u8 0, .int .u8 0, .int .u8 0, .int .u8 0, .int .u8 0, .int .u8 0, .int .u8 0, .int .u8 0, .int .u8 0, .int .u8 0, .int .u8 0, .int .u8 0, .int .u8 0, .int .u8 0]⟩ := ⟨by kernel_rfl, by kernel_rfl, by kernel_rfl, by kernel_rfl⟩
theorem Tryz.ti158 : TIok Tryz.prog 158 ⟨.int .u64, 1, 8, [.int .u64 0]⟩ := ⟨by kernel_rfl, by kernel_rfl, by kernel_rfl, by kernel_rfl⟩
theorem Tryz.ti159 : TIok Tryz.prog 159 ⟨.other, 1, 8, [.nilFunc]⟩ := ⟨by kernel_rfl, by kernel_rfl, by kernel_rfl, by kernel_rfl⟩
theorem Tryz.ti160 : TIok Tryz.prog 160 ⟨.other, 1, 8, [.nilFunc]⟩ := ⟨by kernel_rfl, by kernel_rfl, by kernel_rfl, by kernel_rfl⟩
theorem Tryz.ti162 : TIok Tryz.prog 162 ⟨.other, 1, 8, [.nilFunc]⟩ := ⟨by kernel_rfl, by kernel_rfl, by kernel_rfl, by kernel_rfl⟩
theorem Tryz.ti163 : TIok Tryz.prog 163 ⟨.int .i64, 1, 8, [.int .i64 0]⟩ := ⟨by kernel_rfl, by kernel_rfl, by kernel_rfl, by kernel_rfl⟩
theorem Tryz.ti165 : TIok Tryz.prog 165 ⟨.other, 1, 8, [.nilFunc]⟩ := ⟨by kernel_rfl, by kernel_rfl, by kernel_rfl, by kernel_rfl⟩
theorem Tryz.ti166 : TIok Tryz.prog 166 ⟨.ptr 181, 1, 8, [.pointer none]⟩ := ⟨by kernel_rfl, by kernel_rfl, by kernel_rfl, by kernel_rfl⟩
theorem Tryz.ti167 : TIok Tryz.prog 167 ⟨.other, 1, 8, [.nilFunc]⟩ := ⟨by kernel_rfl, by kernel_rfl, by kernel_rfl, by kernel_rfl⟩
theorem Tryz.ti168 : TIok Tryz.prog 168 ⟨.other, 1, 8, [.nilFunc]⟩ := ⟨by kernel_rfl, by kernel_rfl, by kernel_rfl, by kernel_rfl⟩
theorem Tryz.ti169 : TIok Tryz.prog 169 ⟨.slice 171, 1, 24, [.slice none 0 0]⟩ := ⟨by kernel_rfl, by kernel_rfl, by kernel_rfl, by kernel_rfl⟩
theorem Tryz.ti170 : TIok Tryz.prog 170 ⟨.struct [(0, 3), (1, 3)], 2, 16, [.int .i64 0, .int .i64 0]⟩ := ⟨by kernel_rfl, by kernel_rfl, by kernel_rfl, by kernel_rfl⟩
theorem Tryz.ti171 : TIok Tryz.prog 171 ⟨.struct [(0, 3), (1, 3)], 2, 16, [.int .i64 0, .int .i64 0]⟩ := ⟨by kernel_rfl, by kernel_rfl, by kernel_rfl, by kernel_rfl⟩
theorem Tryz.ti172 : TIok Tryz.prog 172 ⟨.int .u32, 1, 4, [.int .u32 0]⟩ := ⟨by kernel_rfl, by kernel_rfl, by kernel_rfl, by kernel_rfl⟩
theorem Tryz.ti173 : TIok Tryz.prog 173 ⟨.other, 1, 8, [.nilFunc]⟩ := ⟨by kernel_rfl, by kernel_rfl, by kernel_rfl, by kernel_rfl⟩
theorem Tryz.ti174 : TIok Tryz.prog 174 ⟨.ptr 186, 1, 8, [.pointer none]⟩ := ⟨by kernel_rfl, by kernel_rfl, by kernel_rfl, by kernel_rfl⟩
theorem Tryz.ti175 : TIok Tryz.prog 175 ⟨.array 20 158, 20, 160, [.int .u64 0, .int .u64 0, .int .u64 0, .int .u64 0, .int .u64 0, .int .u64 0, .int .u64 0, .int .u64 0, .int .u64 0, .int .u64 0, .int .u64 0, .int .u64 0, .int .u64 0, .int .u64 0, .int .u64 0, .int .u64 0, .int .u64 0, .int .u64 0, .int .u64 0, .int .u64 0]⟩ := ⟨by kernel_rfl, by kernel_rfl, by kernel_rfl, by kernel_rfl⟩
theorem Tryz.ti176 : TIok Tryz.prog 176 ⟨.array 65 5, 65, 65, [.int .u8 0, .int .u8 0, .int .u8 0, .int .u8 0, .int .u8 0, .int .u8 0, .int .u8 0, .int .u8 0, .int .u8 0, .int .u8 0, .int .u8 0, .int .u8 0, .int .u8 0, .int .u8 0, .int .u8 0, .int .u8 0, .int .u8 0, .int .u8 0, .int .u8 0, .int .u8 0, .int .u8 0, .int .u8 0, .int .u8 0, .int .u8 0, .int .u8 0, .int .u8 0, .int .u8 0, .int .u8 0, .int .u8 0, .int .u8 0, .int .u8 0, .int .u8 0, .int .u8 0, .int .u8 0, .int .u8 0, .int .u8 0, .int .u8 0, .int .u8 0, .int .u8 0, .int .u8 0, .int .u8 0, .int .u8 0, .int .u8 0, .int .u8 0, .int .u8 0, .int .u8 0, .int .u8 0, .int .u8 0, .int .u8 0, .int .u8 0, .int .u8 0, .int .u8 0, .int .u8 0, .int .u8 0, .int .u8 0, .int .u8 0, .int .u8 0, .int .u8 0, .int .u8 0, .int .u8 0, .int .u8 0, .int .u8 0, .int .u8 0, .int .u8 0, .int .u8 0]⟩ := ⟨by kernel_rfl, by kernel_rfl, by kernel_rfl, by kernel_rfl⟩
theorem Tryz.ti177 : TIok Tryz.prog 177 ⟨.other, 1, 8, [.nilFunc]⟩ := ⟨by kernel_rfl, by kernel_rfl, by kernel_rfl, by kernel_rfl⟩
theorem Tryz.ti178 : TIok Tryz.prog 178 ⟨.other, 1, 8, [.nilFunc]⟩ := ⟨by kernel_rfl, by kernel_rfl, by kernel_rfl, by kernel_rfl⟩
theorem Tryz.ti179 : TIok Tryz.prog 179 ⟨.other, 1, 8, [.nilFunc]⟩ := ⟨by kernel_rfl, by kernel_rfl, by kernel_rfl, by kernel_rfl⟩
theorem Tryz.ti180 : TIok Tryz.prog 180 ⟨.struct [(0, 9), (1, 9), (2, 75)], 3, 48, [.string ⟨#[]⟩, .string ⟨#[]⟩, .nilIface]⟩ := ⟨by kernel_rfl, by kernel_rfl, by kernel_rfl, by kernel_rfl⟩
theorem Tryz.ti181 : TIok Tryz.prog 181 ⟨.struct [(0, 9), (1, 9), (2, 75)], 3, 48, [.string ⟨#[]⟩, .string ⟨#[]⟩, .nilIface]⟩ := ⟨by kernel_rfl, by kernel_rfl, by kernel_rfl, by kernel_rfl⟩
theorem Tryz.ti182 : TIok Tryz.prog 182 ⟨.other, 1, 8, [.nilFunc]⟩ := ⟨by kernel_rfl, by kernel_rfl, by kernel_rfl, by kernel_rfl⟩
theorem Tryz.ti183 : TIok Tryz.prog 183 ⟨.slice 189, 1, 24, [.slice none 0 0]⟩ := ⟨by kernel_rfl, by kernel_rfl, by kernel_rfl, by kernel_rfl⟩
theorem Tryz.ti184 : TIok Tryz.prog 184 ⟨.slice 192, 1, 24, [.slice none 0 0]⟩ := ⟨by kernel_rfl, by kernel_rfl, by kernel_rfl, by kernel_rfl⟩
theorem Tryz.ti185 : TIok Tryz.prog 185 ⟨.struct [(0, 183), (1, 184), (2, 3)], 3, 56, [.slice none 0 0, .slice none 0 0, .int .i64 0]⟩ := ⟨by kernel_rfl, by kernel_rfl, by kernel_rfl, by kernel_rfl⟩
theorem Tryz.ti186 : TIok Tryz.prog 186 ⟨.struct [(0, 183), (1, 184), (2, 3)], 3, 56, [.slice none 0 0, .slice none 0 0, .int .i64 0]⟩ := ⟨by kernel_rfl, by kernel_rfl, by kernel_rfl, by kernel_rfl⟩
theorem Tryz.ti187 : TIok Tryz.prog 187 ⟨.int .u16, 1, 2, [.int .u16 0]⟩ := ⟨by kernel_rfl, by kernel_rfl, by kernel_rfl, by kernel_rfl⟩
theorem Tryz.ti188 : TIok Tryz.prog 188 ⟨.struct [(0, 187), (1, 187), (2, 187)], 3, 6, [.int .u16 0, .int .u16 0, .int .u16 0]⟩ := ⟨by kernel_rfl, by kernel_rfl, by kernel_rfl, by kernel_rfl⟩
theorem Tryz.ti189 : TIok Tryz.prog 189 ⟨.struct [(0, 187), (1, 187), (2, 187)], 3, 6, [.int .u16 0, .int .u16 0, .int .u16 0]⟩ := ⟨by kernel_rfl, by kernel_rfl, by kernel_rfl, by kernel_rfl⟩
theorem Tryz.ti190 : TIok Tryz.prog 190 ⟨.other, 1, 8, [.nilFunc]⟩ := ⟨by kernel_rfl, by kernel_rfl, by kernel_rfl, by kernel_rfl⟩
theorem Tryz.ti191 : TIok Tryz.prog 191 ⟨.struct [(0, 172), (1, 172), (2, 172)], 3, 12, [.int .u32 0, .int .u32 0, .int .u32 0]⟩ := ⟨by kernel_rfl, by kernel_rfl, by kernel_rfl, by kernel_rfl⟩
theorem Tryz.ti192 : TIok Tryz.prog 192 ⟨.struct [(0, 172), (1, 172), (2, 172)], 3, 12, [.int .u32 0, .int .u32 0, .int .u32 0]⟩ := ⟨by kernel_rfl, by kernel_rfl, by kernel_rfl, by kernel_rfl⟩
theorem Tryz.ti193 : TIok Tryz.prog 193 ⟨.other, 1, 8, [.nilFunc]⟩ := ⟨by kernel_rfl, by kernel_rfl, by kernel_rfl, by kernel_rfl⟩
theorem Tryz.ti194 : TIok Tryz.prog 194 ⟨.other, 1, 8, [.nilFunc]⟩ := ⟨by kernel_rfl, by kernel_rfl, by kernel_rfl, by kernel_rfl⟩
theorem Tryz.ti195 : TIok Tryz.prog 195 ⟨.ptr 197, 1, 8, [.pointer none]⟩ := ⟨by kernel_rfl, by kernel_rfl, by kernel_rfl, by kernel_rfl⟩
theorem Tryz.ti196 : TIok Tryz.prog 196 ⟨.struct [(0, 9)], 1, 16, [.string ⟨#[]⟩]⟩ := ⟨by kernel_rfl, by kernel_rfl, by kernel_rfl, by kernel_rfl⟩
theorem Tryz.ti197 : TIok Tryz.prog 197 ⟨.struct [(0, 9)], 1, 16, [.string ⟨#[]⟩]⟩ := ⟨by kernel_rfl, by kernel_rfl, by kernel_rfl, by kernel_rfl⟩
theorem Tryz.ti198 : TIok Tryz.prog 198 ⟨.ptr 189, 1, 8, [.pointer none]⟩ := ⟨by kernel_rfl, by kernel_rfl, by kernel_rfl, by kernel_rfl⟩
theorem Tryz.ti199 : TIok Tryz.prog 199 ⟨.ptr 192, 1, 8, [.pointer none]⟩ := ⟨by kernel_rfl, by kernel_rfl, by kernel_rfl, by kernel_rfl⟩
theorem Tryz.ti200 : TIok Tryz.prog 200 ⟨.array 32 5, 32, 32, [.int .u8 0, .int .u8 0, .int .u8 0, .int .u8 0, .int .u8 0, .int .u8 0, .int .u8 0, .int .u8 0, .int .u8 0, .int .u8 0, .int .u8 0, .int .u8 0, .int .u8 0, .int .u8 0, .int .u8 0, .int .u8 0, .int .u8 0, .int .u8 0, .int .u8 0, .int .u8 0, .int .u8 0, .int .u8 0, .int .u8 0, .int .u8 0, .int .u8 0, .int .u8 0, .int .u8 0, .int .u8 0, .int .u8 0, .int .u8 0, .int .u8 0, .int .u8 0]⟩ := ⟨by kernel_rfl, by kernel_rfl, by kernel_rfl, by kernel_rfl⟩
theorem Tryz.ti201 : TIok Tryz.prog 201 ⟨.array 64 5, 64, 64, [.int .u8 0, .int .u8 0, .int .u8 0, .int .u8 0, .int .u8 0, .int .u8 0, .int .u8 0, .int .u8 0, .int .u8 0, .int .u8 0, .int .u8 0, .int .u8 0, .int .u8 0, .int .u8 0, .int .u8 0, .int .u8 0, .int .u8 0, .int .u8 0, .int .u8 0, .int .u8 0, .int .u8 0, .int .u8 0, .int .u8 0, .int .u8 0, .int .u8 0, .int .u8 0, .int .u8 0, .int .u8 0, .int .u8 0, .int .u8 0, .int .u8 0, .int .u8 0, .int .u8 0, .int .u8 0, .int .u8 0, .int .u8 0, .int .u8 0, .int .u8 0, .int .u8 0, .int .u8 0, .int .u8 0, .int .u8 0, .int .u8 0, .int .u8 0, .int .u8 0, .int .u8 0, .int .u8 0, .int .u8 0, .int .u8 0, .int .u8 0, .int .u8 0, .int .u8 0, .int .u8 0, .int .u8 0, .int .u8 0, .int .u8 0, .int .u8 0, .int .u8 0, .int .u8 0, .int .u8 0, .int .u8 0, .int .u8 0, .int .u8 0, .int .u8 0]⟩ := ⟨by kernel_rfl, by kernel_rfl, by kernel_rfl, by kernel_rfl⟩
theorem Tryz.ti202 : TIok Tryz.prog 202 ⟨.struct [(0, 17), (1, 17), (2, 17), (3, 9)], 4, 40, [.pointer none, .pointer none, .pointer none, .string ⟨#[]⟩]⟩ := ⟨by kernel_rfl, by kernel_rfl, by kernel_rfl, by kernel_rfl⟩
theorem Tryz.ti203 : TIok Tryz.prog 203 ⟨.struct [(0, 17), (1, 17), (2, 17), (3, 9)], 4, 40, [.pointer none, .pointer none, .pointer none, .string ⟨#[]⟩]⟩ := ⟨by kernel_rfl, by kernel_rfl, by kernel_rfl, by kernel_rfl⟩
theorem Tryz.ti204 : TIok Tryz.prog 204 ⟨.array 0 16, 0, 0, []⟩ := ⟨by kernel_rfl, by kernel_rfl, by kernel_rfl, by kernel_rfl⟩
theorem Tryz.ti205 : TIok Tryz.prog 205 ⟨.struct [(0, 204)], 0, 0, []⟩ := ⟨by kernel_rfl, by kernel_rfl, by kernel_rfl, by kernel_rfl⟩
theorem Tryz.ti206 : TIok Tryz.prog 206 ⟨.struct [(0, 204)], 0, 0, []⟩ := ⟨by kernel_rfl, by kernel_rfl, by kernel_rfl, by kernel_rfl⟩
theorem Tryz.ti207 : TIok Tryz.prog 207 ⟨.int .u8, 1, 1, [.int .u8 0]⟩ := ⟨by kernel_rfl, by kernel_rfl, by kernel_rfl, by kernel_rfl⟩
theorem Tryz.ti208 : TIok Tryz.prog 208 ⟨.int .u8, 1, 1, [.int .u8 0]⟩ := ⟨by kernel_rfl, by kernel_rfl, by kernel_rfl, by kernel_rfl⟩
theorem Tryz.ti209 : TIok Tryz.prog 209 ⟨.other, 1, 8, [.nilFunc]⟩ := ⟨by kernel_rfl, by kernel_rfl, by kernel_rfl, by kernel_rfl⟩
theorem Tryz.ti210 : TIok Tryz.prog 210 ⟨.int .i32, 1, 4, [.int .i32 0]⟩ := ⟨by kernel_rfl, by kernel_rfl, by kernel_rfl, by kernel_rfl⟩
theorem Tryz.ti211 : TIok Tryz.prog 211 ⟨.int .i32, 1, 4, [.int .i32 0]⟩ := ⟨by kernel_rfl, by kernel_rfl, by kernel_rfl, by kernel_rfl⟩
theorem Tryz.ti212 : TIok Tryz.prog 212 ⟨.struct [(0, 12), (1, 12), (2, 172), (3, 207), (4, 5), (5, 5), (6, 208), (7, 209), (8, 99), (9, 210), (10, 211)], 11, 48, [.int .u64 0, .int .u64 0, .int .u32 0, .int .u8 0, .int .u8 0, .int .u8 0, .int .u8 0, .nilFunc, .pointer none, .int .i32 0, .int .i32 0]⟩ := ⟨by kernel_rfl, by kernel_rfl, by kernel_rfl, by kernel_rfl⟩
theorem Tryz.ti213 : TIok Tryz.prog 213 ⟨.struct [(0, 12), (1, 12), (2, 172), (3, 207), (4, 5), (5, 5), (6, 208), (7, 209), (8, 99), (9, 210), (10, 211)], 11, 48, [.int .u64 0, .int .u64 0, .int .u32 0, .int .u8 0, .int .u8 0, .int .u8 0, .int .u8 0, .nilFunc, .pointer none, .int .i32 0, .int .i32 0]⟩ := ⟨by kernel_rfl, by kernel_rfl, by kernel_rfl, by kernel_rfl⟩
theorem Tryz.ti214 : TIok Tryz.prog 214 ⟨.other, 1, 8, [.nilFunc]⟩ := ⟨by kernel_rfl, by kernel_rfl, by kernel_rfl, by kernel_rfl⟩
theorem Tryz.fi3 : Tryz.prog.funcs[3]? = some Tryz.f3 ∧ nameOk Tryz.f3 = true ∧ bodyOk Tryz.f3 = true := ⟨Tryz.func3, by kernel_rfl, by kernel_rfl⟩
theorem Tryz.fi4 : Tryz.prog.funcs[4]? = some Tryz.f4 ∧ nameOk Tryz.f4 = true ∧ bodyOk Tryz.f4 = true := ⟨Tryz.func4, by kernel_rfl, by kernel_rfl⟩
theorem Tryz.fi5 : Tryz.prog.funcs[5]? = some Tryz.f5 ∧ nameOk Tryz.f5 = true ∧ bodyOk Tryz.f5 = true := ⟨Tryz.func5, by kernel_rfl, by kernel_rfl⟩
theorem Tryz.fi6 : Tryz.prog.funcs[6]? = some Tryz.f6 ∧ nameOk Tryz.f6 = true ∧ bodyOk Tryz.f6 = true := ⟨Tryz.func6, by kernel_rfl, by kernel_rfl⟩
theorem Tryz.fi7 : Tryz.prog.funcs[7]? = some Tryz.f7 ∧ nameOk Tryz.f7 = true ∧ bodyOk Tryz.f7 = true := ⟨Tryz.func7, by kernel_rfl, by kernel_rfl⟩
theorem Tryz.fi8 : Tryz.prog.funcs[8]? = some Tryz.f8 ∧ nameOk Tryz.f8 = true ∧ bodyOk Tryz.f8 = true := ⟨Tryz.func8, by kernel_rfl, by kernel_rfl⟩
theorem Tryz.fi9 : Tryz.prog.funcs[9]? = some Tryz.f9 ∧ nameOk Tryz.f9 = true ∧ bodyOk Tryz.f9 = true := ⟨Tryz.func9, by kernel_rfl, by kernel_rfl⟩
theorem Tryz.fi10 : Tryz.prog.funcs[10]? = some Tryz.f10 ∧ nameOk Tryz.f10 = true ∧ bodyOk Tryz.f10 = true := ⟨Tryz.func10, by kernel_rfl, by kernel_rfl⟩
theorem Tryz.fi11 : Tryz.prog.funcs[11]? = some Tryz.f11 ∧ nameOk Tryz.f11 = true ∧ bodyOk Tryz.f11 = true := ⟨Tryz.func11, by kernel_rfl, by kernel_rfl⟩
theorem Tryz.fi12 : Tryz.prog.funcs[12]? = some Tryz.f12 ∧ nameOk Tryz.f12 = true ∧ bodyOk Tryz.f12 = true := ⟨Tryz.func12, by kernel_rfl, by kernel_rfl⟩
theorem Tryz.fi13 : Tryz.prog.funcs[13]? = some Tryz.f13 ∧ nameOk Tryz.f13 = true ∧ bodyOk Tryz.f13 = true := ⟨Tryz.func13, by kernel_rfl, by kernel_rfl⟩
theorem Tryz.fi14 : Tryz.prog.funcs[14]? = some Tryz.f14 ∧ nameOk Tryz.f14 = true ∧ bodyOk Tryz.f14 = true := ⟨Tryz.func14, by kernel_rfl, by kernel_rfl⟩
theorem Tryz.fi15 : Tryz.prog.funcs[15]? = some Tryz.f15 ∧ nameOk Tryz.f15 = true ∧ bodyOk Tryz.f15 = true := ⟨Tryz.func15, by kernel_rfl, by kernel_rfl⟩
theorem Tryz.fi16 : Tryz.prog.funcs[16]? = some Tryz.f16 ∧ nameOk Tryz.f16 = true ∧ bodyOk Tryz.f16 = true := ⟨Tryz.func16, by kernel_rfl, by kernel_rfl⟩
theorem Tryz.fi17 : Tryz.prog.funcs[17]? = some Tryz.f17 ∧ nameOk Tryz.f17 = true ∧ bodyOk Tryz.f17 = true := ⟨Tryz.func17, by kernel_rfl, by kernel_rfl⟩
theorem Tryz.fi18 : Tryz.prog.funcs[18]? = some Tryz.f18 ∧ nameOk Tryz.f18 = true ∧ bodyOk Tryz.f18 = true := ⟨Tryz.func18, by kernel_rfl, by kernel_rfl⟩
theorem Tryz.fi19 : Tryz.prog.funcs[19]? = some Tryz.f19 ∧ nameOk Tryz.f19 = true ∧ bodyOk Tryz.f19 = true := ⟨Tryz.func19, by kernel_rfl, by kernel_rfl⟩
theorem Tryz.fi20 : Tryz.prog.funcs[20]? = some Tryz.f20 ∧ nameOk Tryz.f20 = true ∧ bodyOk Tryz.f20 = true := ⟨Tryz.func20, by kernel_rfl, by kernel_rfl⟩
theorem Tryz.fi21 : Tryz.prog.funcs[21]? = some Tryz.f21 ∧ nameOk Tryz.f21 = true ∧ bodyOk Tryz.f21 = true := ⟨Tryz.func21, by kernel_rfl, by kernel_rfl⟩
theorem Tryz.fi22 : Tryz.prog.funcs[22]? = some Tryz.f22 ∧ nameOk Tryz.f22 = true ∧ bodyOk Tryz.f22 = true := ⟨Tryz.func22, by kernel_rfl, by kernel_rfl⟩
theorem Tryz.fi23 : Tryz.prog.funcs[23]? = some Tryz.f23 ∧ nameOk Tryz.f23 = true ∧ bodyOk Tryz.f23 = true := ⟨Tryz.func23, by kernel_rfl, by kernel_rfl⟩
theorem Tryz.fi24 : Tryz.prog.funcs[24]? = some Tryz.f24 ∧ nameOk Tryz.f24 = true ∧ bodyOk Tryz.f24 = true := ⟨Tryz.func24, by kernel_rfl, by kernel_rfl⟩
theorem Tryz.fi25 : Tryz.prog.funcs[25]? = some Tryz.f25 ∧ nameOk Tryz.f25 = true ∧ bodyOk Tryz.f25 = true := ⟨Tryz.func25, by kernel_rfl, by kernel_rfl⟩
theorem Tryz.fi26 : Tryz.prog.funcs[26]? = some Tryz.f26 ∧ nameOk Tryz.f26 = true ∧ bodyOk Tryz.f26 = true := ⟨Tryz.func26, by kernel_rfl, by kernel_rfl⟩
theorem Tryz.fi27 : Tryz.prog.funcs[27]? = some Tryz.f27 ∧ nameOk Tryz.f27 = true ∧ bodyOk Tryz.f27 = true := ⟨Tryz.func27, by kernel_rfl, by kernel_rfl⟩
theorem Tryz.fi28 : Tryz.prog.funcs[28]? = some Tryz.f28 ∧ nameOk Tryz.f28 = true ∧ bodyOk Tryz.f28 = true := ⟨Tryz.func28, by kernel_rfl, by kernel_rfl⟩
theorem Tryz.fi29 : Tryz.prog.funcs[29]? = some Tryz.f29 ∧ nameOk Tryz.f29 = true ∧ bodyOk Tryz.f29 = true := ⟨Tryz.func29, by kernel_rfl, by kernel_rfl⟩
theorem Tryz.fi30 : Tryz.prog.funcs[30]? = some Tryz.f30 ∧ nameOk Tryz.f30 = true ∧ bodyOk Tryz.f30 = true := ⟨Tryz.func30, by kernel_rfl, by kernel_rfl⟩
theorem Tryz.fi31 : Tryz.prog.funcs[31]? = some Tryz.f31 ∧ nameOk Tryz.f31 = true ∧ bodyOk Tryz.f31 = true := ⟨Tryz.func31, by kernel_rfl, by kernel_rfl⟩
theorem Tryz.fi32 : Tryz.prog.funcs[32]? = some Tryz.f32 ∧ nameOk Tryz.f32 = true ∧ bodyOk Tryz.f32 = true := ⟨Tryz.func32, by kernel_rfl, by kernel_rfl⟩
theorem Tryz.fi33 : Tryz.prog.funcs[33]? = some Tryz.f33 ∧ nameOk Tryz.f33 = true ∧ bodyOk Tryz.f33 = true := ⟨Tryz.func33, by kernel_rfl, by kernel_rfl⟩
theorem Tryz.fi34 : Tryz.prog.funcs[34]? = some Tryz.f34 ∧ nameOk Tryz.f34 = true ∧ bodyOk Tryz.f34 = true := ⟨Tryz.func34, by kernel_rfl, by kernel_rfl⟩
theorem Tryz.fi35 : Tryz.prog.funcs[35]? = some Tryz.f35 ∧ nameOk Tryz.f35 = true ∧ bodyOk Tryz.f35 = true := ⟨Tryz.func35, by kernel_rfl, by kernel_rfl⟩
theorem Tryz.fi36 : Tryz.prog.funcs[36]? = some Tryz.f36 ∧ nameOk Tryz.f36 = true ∧ bodyOk Tryz.f36 = true := ⟨Tryz.func36, by kernel_rfl, by kernel_rfl⟩
theorem Tryz.fi37 : Tryz.prog.funcs[37]? = some Tryz.f37 ∧ nameOk Tryz.f37 = true ∧ bodyOk Tryz.f37 = true := ⟨Tryz.func37, by kernel_rfl, by kernel_rfl⟩
theorem Tryz.fi38 : Tryz.prog.funcs[38]? = some Tryz.f38 ∧ nameOk Tryz.f38 = true ∧ bodyOk Tryz.f38 = true := ⟨Tryz.func38, by kernel_rfl, by kernel_rfl⟩
theorem Tryz.fi39 : Tryz.prog.funcs[39]? = some Tryz.f39 ∧ nameOk Tryz.f39 = true ∧ bodyOk Tryz.f39 = true := ⟨Tryz.func39, by kernel_rfl, by kernel_rfl⟩
theorem Tryz.fi40 : Tryz.prog.funcs[40]? = some Tryz.f40 ∧ nameOk Tryz.f40 = true ∧ bodyOk Tryz.f40 = true := ⟨Tryz.func40, by kernel_rfl, by kernel_rfl⟩
theorem Tryz.fi41 : Tryz.prog.funcs[41]? = some Tryz.f41 ∧ nameOk Tryz.f41 = true ∧ bodyOk Tryz.f41 = true := ⟨Tryz.func41, by kernel_rfl, by kernel_rfl⟩
theorem Tryz.fi42 : Tryz.prog.funcs[42]? = some Tryz.f42 ∧ nameOk Tryz.f42 = true ∧ bodyOk Tryz.f42 = true := ⟨Tryz.func42, by kernel_rfl, by kernel_rfl⟩
theorem Tryz.fi43 : Tryz.prog.funcs[43]? = some Tryz.f43 ∧ nameOk Tryz.f43 = true ∧ bodyOk Tryz.f43 = true := ⟨Tryz.func43, by kernel_rfl, by kernel_rfl⟩
theorem Tryz.fi44 : Tryz.prog.funcs[44]? = some Tryz.f44 ∧ nameOk Tryz.f44 = true ∧ bodyOk Tryz.f44 = true := ⟨Tryz.func44, by kernel_rfl, by kernel_rfl⟩
theorem Tryz.fi45 : Tryz.prog.funcs[45]? = some Tryz.f45 ∧ nameOk Tryz.f45 = true ∧ bodyOk Tryz.f45 = true := ⟨Tryz.func45, by kernel_rfl, by kernel_rfl⟩
theorem Tryz.fi46 : Tryz.prog.funcs[46]? = some Tryz.f46 ∧ nameOk Tryz.f46 = true ∧ bodyOk Tryz.f46 = true := ⟨Tryz.func46, by kernel_rfl, by kernel_rfl⟩
theorem Tryz.fi47 : Tryz.prog.funcs[47]? = some Tryz.f47 ∧ nameOk Tryz.f47 = true ∧ bodyOk Tryz.f47 = true := ⟨Tryz.func47, by kernel_rfl, by kernel_rfl⟩
theorem Tryz.fi48 : Tryz.prog.funcs[48]? = some Tryz.f48 ∧ nameOk Tryz.f48 = true ∧ bodyOk Tryz.f48 = true := ⟨Tryz.func48, by kernel_rfl, by kernel_rfl⟩
theorem Tryz.fi49 : Tryz.prog.funcs[49]? = some Tryz.f49 ∧ nameOk Tryz.f49 = true ∧ bodyOk Tryz.f49 = true := ⟨Tryz.func49, by kernel_rfl, by kernel_rfl⟩
theorem Tryz.fi50 : Tryz.prog.funcs[50]? = some Tryz.f50 ∧ nameOk Tryz.f50 = true ∧ bodyOk Tryz.f50 = true := ⟨Tryz.func50, by kernel_rfl, by kernel_rfl⟩
theorem Tryz.fi51 : Tryz.prog.funcs[51]? = some Tryz.f51 ∧ nameOk Tryz.f51 = true ∧ bodyOk Tryz.f51 = true := ⟨Tryz.func51, by kernel_rfl, by kernel_rfl⟩
theorem Tryz.fi52 : Tryz.prog.funcs[52]? = some Tryz.f52 ∧ nameOk Tryz.f52 = true ∧ bodyOk Tryz.f52 = true := ⟨Tryz.func52, by kernel_rfl, by kernel_rfl⟩
theorem Tryz.fi53 : Tryz.prog.funcs[53]? = some Tryz.f53 ∧ nameOk Tryz.f53 = true ∧ bodyOk Tryz.f53 = true := ⟨Tryz.func53, by kernel_rfl, by kernel_rfl⟩
theorem Tryz.fi54 : Tryz.prog.funcs[54]? = some Tryz.f54 ∧ nameOk Tryz.f54 = true ∧ bodyOk Tryz.f54 = true := ⟨Tryz.func54, by kernel_rfl, by kernel_rfl⟩
theorem Tryz.fi55 : Tryz.prog.funcs[55]? = some Tryz.f55 ∧ nameOk Tryz.f55 = true ∧ bodyOk Tryz.f55 = true := ⟨Tryz.func55, by kernel_rfl, by kernel_rfl⟩
theorem Tryz.fi56 : Tryz.prog.funcs[56]? = some Tryz.f56 ∧ nameOk Tryz.f56 = true ∧ bodyOk Tryz.f56 = true := ⟨Tryz.func56, by kernel_rfl, by kernel_rfl⟩
theorem Tryz.fi57 : Tryz.prog.funcs[57]? = some Tryz.f57 ∧ nameOk Tryz.f57 = true ∧ bodyOk Tryz.f57 = true := ⟨Tryz.func57, by kernel_rfl, by kernel_rfl⟩
theorem Tryz.fi58 : Tryz.prog.funcs[58]? = some Tryz.f58 ∧ nameOk Tryz.f58 = true ∧ bodyOk Tryz.f58 = true := ⟨Tryz.func58, by kernel_rfl, by kernel_rfl⟩
theorem Tryz.fi59 : Tryz.prog.funcs[59]? = some Tryz.f59 ∧ nameOk Tryz.f59 = true ∧ bodyOk Tryz.f59 = true := ⟨Tryz.func59, by kernel_rfl, by kernel_rfl⟩
theorem Tryz.fi60 : Tryz.prog.funcs[60]? = some Tryz.f60 ∧ nameOk Tryz.f60 = true ∧ bodyOk Tryz.f60 = true := ⟨Tryz.func60, by kernel_rfl, by kernel_rfl⟩
theorem Tryz.fi61 : Tryz.prog.funcs[61]? = some Tryz.f61 ∧ nameOk Tryz.f61 = true ∧ bodyOk Tryz.f61 = true := ⟨Tryz.func61, by kernel_rfl, by kernel_rfl⟩
theorem Tryz.fi62 : Tryz.prog.funcs[62]? = some Tryz.f62 ∧ nameOk Tryz.f62 = true ∧ bodyOk Tryz.f62 = true := ⟨Tryz.func62, by kernel_rfl, by kernel_rfl⟩
theorem Tryz.fi63 : Tryz.prog.funcs[63]? = some Tryz.f63 ∧ nameOk Tryz.f63 = true ∧ bodyOk Tryz.f63 = true := ⟨Tryz.func63, by kernel_rfl, by kernel_rfl⟩
theorem Tryz.fi64 : Tryz.prog.funcs[64]? = some Tryz.f64 ∧ nameOk Tryz.f64 = true ∧ bodyOk Tryz.f64 = true := ⟨Tryz.func64, by kernel_rfl, by kernel_rfl⟩
theorem Tryz.fi65 : Tryz.prog.funcs[65]? = some Tryz.f65 ∧ nameOk Tryz.f65 = true ∧ bodyOk Tryz.f65 = true := ⟨Tryz.func65, by kernel_rfl, by kernel_rfl⟩
theorem Tryz.fi66 : Tryz.prog.funcs[66]? = some Tryz.f66 ∧ nameOk Tryz.f66 = true ∧ bodyOk Tryz.f66 = true := ⟨Tryz.func66, by kernel_rfl, by kernel_rfl⟩
theorem Tryz.fi67 : Tryz.prog.funcs[67]? = some Tryz.f67 ∧ nameOk Tryz.f67 = true ∧ bodyOk Tryz.f67 = true := ⟨Tryz.func67, by kernel_rfl, by kernel_rfl⟩
theorem Tryz.fi68 : Tryz.prog.funcs[68]? = some Tryz.f68 ∧ nameOk Tryz.f68 = true ∧ bodyOk Tryz.f68 = true := ⟨Tryz.func68, by kernel_rfl, by kernel_rfl⟩
theorem Tryz.fi69 : Tryz.prog.funcs[69]? = some Tryz.f69 ∧ nameOk Tryz.f69 = true ∧ bodyOk Tryz.f69 = true := ⟨Tryz.func69, by kernel_rfl, by kernel_rfl⟩
theorem Tryz.fi70 : Tryz.prog.funcs[70]? = some Tryz.f70 ∧ nameOk Tryz.f70 = true ∧ bodyOk Tryz.f70 = true := ⟨Tryz.func70, by kernel_rfl, by kernel_rfl⟩
theorem Tryz.fi71 : Tryz.prog.funcs[71]? = some Tryz.f71 ∧ nameOk Tryz.f71 = true ∧ bodyOk Tryz.f71 = true := ⟨Tryz.func71, by kernel_rfl, by kernel_rfl⟩
theorem Tryz.fi72 : Tryz.prog.funcs[72]? = some Tryz.f72 ∧ nameOk Tryz.f72 = true ∧ bodyOk Tryz.f72 = true := ⟨Tryz.func72, by kernel_rfl, by kernel_rfl⟩
theorem Tryz.fi73 : Tryz.prog.funcs[73]? = some Tryz.f73 ∧ nameOk Tryz.f73 = true ∧ bodyOk Tryz.f73 = true := ⟨Tryz.func73, by kernel_rfl, by kernel_rfl⟩
theorem Tryz.fi74 : Tryz.prog.funcs[74]? = some Tryz.f74 ∧ nameOk Tryz.f74 = true ∧ bodyOk Tryz.f74 = true := ⟨Tryz.func74, by kernel_rfl, by kernel_rfl⟩
theorem Tryz.fi75 : Tryz.prog.funcs[75]? = some Tryz.f75 ∧ nameOk Tryz.f75 = true ∧ bodyOk Tryz.f75 = true := ⟨Tryz.func75, by kernel_rfl, by kernel_rfl⟩
theorem Tryz.fi76 : Tryz.prog.funcs[76]? = some Tryz.f76 ∧ nameOk Tryz.f76 = true ∧ bodyOk Tryz.f76 = true := ⟨Tryz.func76, by kernel_rfl, by kernel_rfl⟩
theorem Tryz.fi77 : Tryz.prog.funcs[77]? = some Tryz.f77 ∧ nameOk Tryz.f77 = true ∧ bodyOk Tryz.f77 = true := ⟨Tryz.func77, by kernel_rfl, by kernel_rfl⟩
theorem Tryz.fi78 : Tryz.prog.funcs[78]? = some Tryz.f78 ∧ nameOk Tryz.f78 = true ∧ bodyOk Tryz.f78 = true := ⟨Tryz.func78, by kernel_rfl, by kernel_rfl⟩
theorem Tryz.fi79 : Tryz.prog.funcs[79]? = some Tryz.f79 ∧ nameOk Tryz.f79 = true ∧ bodyOk Tryz.f79 = true := ⟨Tryz.func79, by kernel_rfl, by kernel_rfl⟩
theorem Tryz.fi80 : Tryz.prog.funcs[80]? = some Tryz.f80 ∧ nameOk Tryz.f80 = true ∧ bodyOk Tryz.f80 = true := ⟨Tryz.func80, by kernel_rfl, by kernel_rfl⟩
theorem Tryz.fi81 : Tryz.prog.funcs[81]? = some Tryz.f81 ∧ nameOk Tryz.f81 = true ∧ bodyOk Tryz.f81 = true := ⟨Tryz.func81, by kernel_rfl, by kernel_rfl⟩
theorem Tryz.fi82 : Tryz.prog.funcs[82]? = some Tryz.f82 ∧ nameOk Tryz.f82 = true ∧ bodyOk Tryz.f82 = true := ⟨Tryz.func82, by kernel_rfl, by kernel_rfl⟩
theorem Tryz.fi83 : Tryz.prog.funcs[83]? = some Tryz.f83 ∧ nameOk Tryz.f83 = true ∧ bodyOk Tryz.f83 = true := ⟨Tryz.func83, by kernel_rfl, by kernel_rfl⟩
theorem Tryz.fi84 : Tryz.prog.funcs[84]? = some Tryz.f84 ∧ nameOk Tryz.f84 = true ∧ bodyOk Tryz.f84 = true := ⟨Tryz.func84, by kernel_rfl, by kernel_rfl⟩
theorem Tryz.fi85 : Tryz.prog.funcs[85]? = some Tryz.f85 ∧ nameOk Tryz.f85 = true ∧ bodyOk Tryz.f85 = true := ⟨Tryz.func85, by kernel_rfl, by kernel_rfl⟩
theorem Tryz.fi86 : Tryz.prog.funcs[86]? = some Tryz.f86 ∧ nameOk Tryz.f86 = true ∧ bodyOk Tryz.f86 = true := ⟨Tryz.func86, by kernel_rfl, by kernel_rfl⟩
theorem Tryz.fi87 : Tryz.prog.funcs[87]? = some Tryz.f87 ∧ nameOk Tryz.f87 = true ∧ bodyOk Tryz.f87 = true := ⟨Tryz.func87, by kernel_rfl, by kernel_rfl⟩
theorem Tryz.fi88 : Tryz.prog.funcs[88]? = some Tryz.f88 ∧ nameOk Tryz.f88 = true ∧ bodyOk Tryz.f88 = true := ⟨Tryz.func88, by kernel_rfl, by kernel_rfl⟩
theorem Tryz.fi89 : Tryz.prog.funcs[89]? = some Tryz.f89 ∧ nameOk Tryz.f89 = true ∧ bodyOk Tryz.f89 = true := ⟨Tryz.func89, by kernel_rfl, by kernel_rfl⟩
theorem Tryz.fi90 : Tryz.prog.funcs[90]? = some Tryz.f90 ∧ nameOk Tryz.f90 = true ∧ bodyOk Tryz.f90 = true := ⟨Tryz.func90, by kernel_rfl, by kernel_rfl⟩
theorem Tryz.fi91 : Tryz.prog.funcs[91]? = some Tryz.f91 ∧ nameOk Tryz.f91 = true ∧ bodyOk Tryz.f91 = true := ⟨Tryz.func91, by kernel_rfl, by kernel_rfl⟩
theorem Tryz.fi92 : Tryz.prog.funcs[92]? = some Tryz.f92 ∧ nameOk Tryz.f92 = true ∧ bodyOk Tryz.f92 = true := ⟨Tryz.func92, by kernel_rfl, by kernel_rfl⟩
theorem Tryz.fi93 : Tryz.prog.funcs[93]? = some Tryz.f93 ∧ nameOk Tryz.f93 = true ∧ bodyOk Tryz.f93 = true := ⟨Tryz.func93, by kernel_rfl, by kernel_rfl⟩
theorem Tryz.fi94 : Tryz.prog.funcs[94]? = some Tryz.f94 ∧ nameOk Tryz.f94 = true ∧ bodyOk Tryz.f94 = true := ⟨Tryz.func94, by kernel_rfl, by kernel_rfl⟩
theorem Tryz.fi95 : Tryz.prog.funcs[95]? = some Tryz.f95 ∧ nameOk Tryz.f95 = true ∧ bodyOk Tryz.f95 = true := ⟨Tryz.func95, by kernel_rfl, by kernel_rfl⟩
theorem Tryz.fi96 : Tryz.prog.funcs[96]? = some Tryz.f96 ∧ nameOk Tryz.f96 = true ∧ bodyOk Tryz.f96 = true := ⟨Tryz.func96, by kernel_rfl, by kernel_rfl⟩
theorem Tryz.fi97 : Tryz.prog.funcs[97]? = some Tryz.f97 ∧ nameOk Tryz.f97 = true ∧ bodyOk Tryz.f97 = true := ⟨Tryz.func97, by kernel_rfl, by kernel_rfl⟩
theorem Tryz.fi98 : Tryz.prog.funcs[98]? = some Tryz.f98 ∧ nameOk Tryz.f98 = true ∧ bodyOk Tryz.f98 = true := ⟨Tryz.func98, by kernel_rfl, by kernel_rfl⟩
theorem Tryz.fi99 : Tryz.prog.funcs[99]? = some Tryz.f99 ∧ nameOk Tryz.f99 = true ∧ bodyOk Tryz.f99 = true := ⟨Tryz.func99, by kernel_rfl, by kernel_rfl⟩
theorem Tryz.fi100 : Tryz.prog.funcs[100]? = some Tryz.f100 ∧ nameOk Tryz.f100 = true ∧ bodyOk Tryz.f100 = true := ⟨Tryz.func100, by kernel_rfl, by kernel_rfl⟩
theorem Tryz.fi101 : Tryz.prog.funcs[101]? = some Tryz.f101 ∧ nameOk Tryz.f101 = true ∧ bodyOk Tryz.f101 = true := ⟨Tryz.func101, by kernel_rfl, by kernel_rfl⟩
theorem Tryz.fi102 : Tryz.prog.funcs[102]? = some Tryz.f102 ∧ nameOk Tryz.f102 = true ∧ bodyOk Tryz.f102 = true := ⟨Tryz.func102, by kernel_rfl, by kernel_rfl⟩
theorem Tryz.fi103 : Tryz.prog.funcs[103]? = some Tryz.f103 ∧ nameOk Tryz.f103 = true ∧ bodyOk Tryz.f103 = true := ⟨Tryz.func103, by kernel_rfl, by kernel_rfl⟩
theorem Tryz.fi104 : Tryz.prog.funcs[104]? = some Tryz.f104 ∧ nameOk Tryz.f104 = true ∧ bodyOk Tryz.f104 = true := ⟨Tryz.func104, by kernel_rfl, by kernel_rfl⟩
theorem Tryz.fi105 : Tryz.prog.funcs[105]? = some Tryz.f105 ∧ nameOk Tryz.f105 = true ∧ bodyOk Tryz.f105 = true := ⟨Tryz.func105, by kernel_rfl, by kernel_rfl⟩
theorem Tryz.fi106 : Tryz.prog.funcs[106]? = some Tryz.f106 ∧ nameOk Tryz.f106 = true ∧ bodyOk Tryz.f106 = true := ⟨Tryz.func106, by kernel_rfl, by kernel_rfl⟩
theorem Tryz.fi107 : Tryz.prog.funcs[107]? = some Tryz.f107 ∧ nameOk Tryz.f107 = true ∧ bodyOk Tryz.f107 = true := ⟨Tryz.func107, by kernel_rfl, by kernel_rfl⟩
theorem Tryz.fi108 : Tryz.prog.funcs[108]? = some Tryz.f108 ∧ nameOk Tryz.f108 = true ∧ bodyOk Tryz.f108 = true := ⟨Tryz.func108, by kernel_rfl, by kernel_rfl⟩
theorem Tryz.fi109 : Tryz.prog.funcs[109]? = some Tryz.f109 ∧ nameOk Tryz.f109 = true ∧ bodyOk Tryz.f109 = true := ⟨Tryz.func109, by kernel_rfl, by kernel_rfl⟩
theorem Tryz.fi110 : Tryz.prog.funcs[110]? = some Tryz.f110 ∧ nameOk Tryz.f110 = true ∧ bodyOk Tryz.f110 = true := ⟨Tryz.func110, by kernel_rfl, by kernel_rfl⟩
theorem Tryz.fi111 : Tryz.prog.funcs[111]? = some Tryz.f111 ∧ nameOk Tryz.f111 = true ∧ bodyOk Tryz.f111 = true := ⟨Tryz.func111, by kernel_rfl, by kernel_rfl⟩
theorem Tryz.fi112 : Tryz.prog.funcs[112]? = some Tryz.f112 ∧ nameOk Tryz.f112 = true ∧ bodyOk Tryz.f112 = true := ⟨Tryz.func112, by kernel_rfl, by kernel_rfl⟩
theorem Tryz.fi113 : Tryz.prog.funcs[113]? = some Tryz.f113 ∧ nameOk Tryz.f113 = true ∧ bodyOk Tryz.f113 = true := ⟨Tryz.func113, by kernel_rfl, by kernel_rfl⟩
theorem Tryz.fi114 : Tryz.prog.funcs[114]? = some Tryz.f114 ∧ nameOk Tryz.f114 = true ∧ bodyOk Tryz.f114 = true := ⟨Tryz.func114, by kernel_rfl, by kernel_rfl⟩
theorem Tryz.fi115 : Tryz.prog.funcs[115]? = some Tryz.f115 ∧ nameOk Tryz.f115 = true ∧ bodyOk Tryz.f115 = true := ⟨Tryz.func115, by kernel_rfl, by kernel_rfl⟩
theorem Tryz.fi116 : Tryz.prog.funcs[116]? = some Tryz.f116 ∧ nameOk Tryz.f116 = true ∧ bodyOk Tryz.f116 = true := ⟨Tryz.func116, by kernel_rfl, by kernel_rfl⟩
theorem Tryz.fi117 : Tryz.prog.funcs[117]? = some Tryz.f117 ∧ nameOk Tryz.f117 = true ∧ bodyOk Tryz.f117 = true := ⟨Tryz.func117, by kernel_rfl, by kernel_rfl⟩
theorem Tryz.fi118 : Tryz.prog.funcs[118]? = some Tryz.f118 ∧ nameOk Tryz.f118 = true ∧ bodyOk Tryz.f118 = true := ⟨Tryz.func118, by kernel_rfl, by kernel_rfl⟩
theorem Tryz.fi119 : Tryz.prog.funcs[119]? = some Tryz.f119 ∧ nameOk Tryz.f119 = true ∧ bodyOk Tryz.f119 = true := ⟨Tryz.func119, by kernel_rfl, by kernel_rfl⟩
theorem Tryz.fi120 : Tryz.prog.funcs[120]? = some Tryz.f120 ∧ nameOk Tryz.f120 = true ∧ bodyOk Tryz.f120 = true := ⟨Tryz.func120, by kernel_rfl, by kernel_rfl⟩
theorem Tryz.fi121 : Tryz.prog.funcs[121]? = some Tryz.f121 ∧ nameOk Tryz.f121 = true ∧ bodyOk Tryz.f121 = true := ⟨Tryz.func121, by kernel_rfl, by kernel_rfl⟩
theorem Tryz.fi122 : Tryz.prog.funcs[122]? = some Tryz.f122 ∧ nameOk Tryz.f122 = true ∧ bodyOk Tryz.f122 = true := ⟨Tryz.func122, by kernel_rfl, by kernel_rfl⟩
theorem Tryz.fi123 : Tryz.prog.funcs[123]? = some Tryz.f123 ∧ nameOk Tryz.f123 = true ∧ bodyOk Tryz.f123 = true := ⟨Tryz.func123, by kernel_rfl, by kernel_rfl⟩
theorem Tryz.fi124 : Tryz.prog.funcs[124]? = some Tryz.f124 ∧ nameOk Tryz.f124 = true ∧ bodyOk Tryz.f124 = true := ⟨Tryz.func124, by kernel_rfl, by kernel_rfl⟩
theorem Tryz.fi125 : Tryz.prog.funcs[125]? = some Tryz.f125 ∧ nameOk Tryz.f125 = true ∧ bodyOk Tryz.f125 = true := ⟨Tryz.func125, by kernel_rfl, by kernel_rfl⟩
theorem Tryz.fi126 : Tryz.prog.funcs[126]? = some Tryz.f126 ∧ nameOk Tryz.f126 = true ∧ bodyOk Tryz.f126 = true := ⟨Tryz.func126, by kernel_rfl, by kernel_rfl⟩
theorem Tryz.fi127 : Tryz.prog.funcs[127]? = some Tryz.f127 ∧ nameOk Tryz.f127 = true ∧ bodyOk Tryz.f127 = true := ⟨Tryz.func127, by kernel_rfl, by kernel_rfl⟩
theorem Tryz.fi128 : Tryz.prog.funcs[128]? = some Tryz.f128 ∧ nameOk Tryz.f128 = true ∧ bodyOk Tryz.f128 = true := ⟨Tryz.func128, by kernel_rfl, by kernel_rfl⟩
theorem Tryz.fi129 : Tryz.prog.funcs[129]? = some Tryz.f129 ∧ nameOk Tryz.f129 = true ∧ bodyOk Tryz.f129 = true := ⟨Tryz.func129, by kernel_rfl, by kernel_rfl⟩
theorem Tryz.fi130 : Tryz.prog.funcs[130]? = some Tryz.f130 ∧ nameOk Tryz.f130 = true ∧ bodyOk Tryz.f130 = true := ⟨Tryz.func130, by kernel_rfl, by kernel_rfl⟩
theorem Tryz.fi131 : Tryz.prog.funcs[131]? = some Tryz.f131 ∧ nameOk Tryz.f131 = true ∧ bodyOk Tryz.f131 = true := ⟨Tryz.func131, by kernel_rfl, by kernel_rfl⟩
theorem Tryz.fi132 : Tryz.prog.funcs[132]? = some Tryz.f132 ∧ nameOk Tryz.f132 = true ∧ bodyOk Tryz.f132 = true := ⟨Tryz.func132, by kernel_rfl, by kernel_rfl⟩
theorem Tryz.fi133 : Tryz.prog.funcs[133]? = some Tryz.f133 ∧ nameOk Tryz.f133 = true ∧ bodyOk Tryz.f133 = true := ⟨Tryz.func133, by kernel_rfl, by kernel_rfl⟩
theorem Tryz.fi134 : Tryz.prog.funcs[134]? = some Tryz.f134 ∧ nameOk Tryz.f134 = true ∧ bodyOk Tryz.f134 = true := ⟨Tryz.func134, by kernel_rfl, by kernel_rfl⟩
theorem Tryz.fi135 : Tryz.prog.funcs[135]? = some Tryz.f135 ∧ nameOk Tryz.f135 = true ∧ bodyOk Tryz.f135 = true := ⟨Tryz.func135, by kernel_rfl, by kernel_rfl⟩
theorem Tryz.fi136 : Tryz.prog.funcs[136]? = some Tryz.f136 ∧ nameOk Tryz.f136 = true ∧ bodyOk Tryz.f136 = true := ⟨Tryz.func136, by kernel_rfl, by kernel_rfl⟩
theorem Tryz.fi137 : Tryz.prog.funcs[137]? = some Tryz.f137 ∧ nameOk Tryz.f137 = true ∧ bodyOk Tryz.f137 = true := ⟨Tryz.func137, by kernel_rfl, by kernel_rfl⟩
theorem Tryz.fi138 : Tryz.prog.funcs[138]? = some Tryz.f138 ∧ nameOk Tryz.f138 = true ∧ bodyOk Tryz.f138 = true := ⟨Tryz.func138, by kernel_rfl, by kernel_rfl⟩
theorem Tryz.fi139 : Tryz.prog.funcs[139]? = some Tryz.f139 ∧ nameOk Tryz.f139 = true ∧ bodyOk Tryz.f139 = true := ⟨Tryz.func139, by kernel_rfl, by kernel_rfl⟩
theorem Tryz.fi140 : Tryz.prog.funcs[140]? = some Tryz.f140 ∧ nameOk Tryz.f140 = true ∧ bodyOk Tryz.f140 = true := ⟨Tryz.func140, by kernel_rfl, by kernel_rfl⟩
theorem Tryz.fi141 : Tryz.prog.funcs[141]? = some Tryz.f141 ∧ nameOk Tryz.f141 = true ∧ bodyOk Tryz.f141 = true := ⟨Tryz.func141, by kernel_rfl, by kernel_rfl⟩
theorem Tryz.fi142 : Tryz.prog.funcs[142]? = some Tryz.f142 ∧ nameOk Tryz.f142 = true ∧ bodyOk Tryz.f142 = true := ⟨Tryz.func142, by kernel_rfl, by kernel_rfl⟩
theorem Tryz.fi143 : Tryz.prog.funcs[143]? = some Tryz.f143 ∧ nameOk Tryz.f143 = true ∧ bodyOk Tryz.f143 = true := ⟨Tryz.func143, by kernel_rfl, by kernel_rfl⟩
theorem Tryz.fi144 : Tryz.prog.funcs[144]? = some Tryz.f144 ∧ nameOk Tryz.f144 = true ∧ bodyOk Tryz.f144 = true := ⟨Tryz.func144, by kernel_rfl, by kernel_rfl⟩
theorem Tryz.fi145 : Tryz.prog.funcs[145]? = some Tryz.f145 ∧ nameOk Tryz.f145 = true ∧ bodyOk Tryz.f145 = true := ⟨Tryz.func145, by kernel_rfl, by kernel_rfl⟩
theorem Tryz.fi146 : Tryz.prog.funcs[146]? = some Tryz.f146 ∧ nameOk Tryz.f146 = true ∧ bodyOk Tryz.f146 = true := ⟨Tryz.func146, by kernel_rfl, by kernel_rfl⟩
theorem Tryz.fi147 : Tryz.prog.funcs[147]? = some Tryz.f147 ∧ nameOk Tryz.f147 = true ∧ bodyOk Tryz.f147 = true := ⟨Tryz.func147, by kernel_rfl, by kernel_rfl⟩
theorem Tryz.fi148 : Tryz.prog.funcs[148]? = some Tryz.f148 ∧ nameOk Tryz.f148 = true ∧ bodyOk Tryz.f148 = true := ⟨Tryz.func148, by kernel_rfl, by kernel_rfl⟩
theorem Tryz.fi149 : Tryz.prog.funcs[149]? = some Tryz.f149 ∧ nameOk Tryz.f149 = true ∧ bodyOk Tryz.f149 = true := ⟨Tryz.func149, by kernel_rfl, by kernel_rfl⟩
theorem Tryz.fi150 : Tryz.prog.funcs[150]? = some Tryz.f150 ∧ nameOk Tryz.f150 = true ∧ bodyOk Tryz.f150 = true := ⟨Tryz.func150, by kernel_rfl, by kernel_rfl⟩
theorem Tryz.fi151 : Tryz.prog.funcs[151]? = some Tryz.f151 ∧ nameOk Tryz.f151 = true ∧ bodyOk Tryz.f151 = true := ⟨Tryz.func151, by kernel_rfl, by kernel_rfl⟩
theorem Tryz.fi152 : Tryz.prog.funcs[152]? = some Tryz.f152 ∧ nameOk Tryz.f152 = true ∧ bodyOk Tryz.f152 = true := ⟨Tryz.func152, by kernel_rfl, by kernel_rfl⟩
theorem Tryz.fi153 : Tryz.prog.funcs[153]? = some Tryz.f153 ∧ nameOk Tryz.f153 = true ∧ bodyOk Tryz.f153 = true := ⟨Tryz.func153, by kernel_rfl, by kernel_rfl⟩
theorem Tryz.fi154 : Tryz.prog.funcs[154]? = some Tryz.f154 ∧ nameOk Tryz.f154 = true ∧ bodyOk Tryz.f154 = true := ⟨Tryz.func154, by kernel_rfl, by kernel_rfl⟩
theorem Tryz.fi155 : Tryz.prog.funcs[155]? = some Tryz.f155 ∧ nameOk Tryz.f155 = true ∧ bodyOk Tryz.f155 = true := ⟨Tryz.func155, by kernel_rfl, by kernel_rfl⟩
theorem Tryz.fi156 : Tryz.prog.funcs[156]? = some Tryz.f156 ∧ nameOk Tryz.f156 = true ∧ bodyOk Tryz.f156 = true := ⟨Tryz.func156, by kernel_rfl, by kernel_rfl⟩
theorem Tryz.fi157 : Tryz.prog.funcs[157]? = some Tryz.f157 ∧ nameOk Tryz.f157 = true ∧ bodyOk Tryz.f157 = true := ⟨Tryz.func157, by kernel_rfl, by kernel_rfl⟩
theorem Tryz.fi158 : Tryz.prog.funcs[158]? = some Tryz.f158 ∧ nameOk Tryz.f158 = true ∧ bodyOk Tryz.f158 = true := ⟨Tryz.func158, by kernel_rfl, by kernel_rfl⟩
theorem Tryz.fi159 : Tryz.prog.funcs[159]? = some Tryz.f159 ∧ nameOk Tryz.f159 = true ∧ bodyOk Tryz.f159 = true := ⟨Tryz.func159, by kernel_rfl, by kernel_rfl⟩
theorem Tryz.fi160 : Tryz.prog.funcs[160]? = some Tryz.f160 ∧ nameOk Tryz.f160 = true ∧ bodyOk Tryz.f160 = true := ⟨Tryz.func160, by kernel_rfl, by kernel_rfl⟩
theorem Tryz.fi161 : Tryz.prog.funcs[161]? = some Tryz.f161 ∧ nameOk Tryz.f161 = true ∧ bodyOk Tryz.f161 = true := ⟨Tryz.func161, by kernel_rfl, by kernel_rfl⟩
theorem Tryz.fi162 : Tryz.prog.funcs[162]? = some Tryz.f162 ∧ nameOk Tryz.f162 = true ∧ bodyOk Tryz.f162 = true := ⟨Tryz.func162, by kernel_rfl, by kernel_rfl⟩
theorem Tryz.fi163 : Tryz.prog.funcs[163]? = some Tryz.f163 ∧ nameOk Tryz.f163 = true ∧ bodyOk Tryz.f163 = true := ⟨Tryz.func163, by kernel_rfl, by kernel_rfl⟩
theorem Tryz.fi164 : Tryz.prog.funcs[164]? = some Tryz.f164 ∧ nameOk Tryz.f164 = true ∧ bodyOk Tryz.f164 = true := ⟨Tryz.func164, by kernel_rfl, by kernel_rfl⟩
theorem Tryz.fi165 : Tryz.prog.funcs[165]? = some Tryz.f165 ∧ nameOk Tryz.f165 = true ∧ bodyOk Tryz.f165 = true := ⟨Tryz.func165, by kernel_rfl, by kernel_rfl⟩
theorem Tryz.fi166 : Tryz.prog.funcs[166]? = some Tryz.f166 ∧ nameOk Tryz.f166 = true ∧ bodyOk Tryz.f166 = true := ⟨Tryz.func166, by kernel_rfl, by kernel_rfl⟩
theorem Tryz.fi167 : Tryz.prog.funcs[167]? = some Tryz.f167 ∧ nameOk Tryz.f167 = true ∧ bodyOk Tryz.f167 = true := ⟨Tryz.func167, by kernel_rfl, by kernel_rfl⟩
theorem Tryz.fi168 : Tryz.prog.funcs[168]? = some Tryz.f168 ∧ nameOk Tryz.f168 = true ∧ bodyOk Tryz.f168 = true := ⟨Tryz.func168, by kernel_rfl, by kernel_rfl⟩
theorem Tryz.fi169 : Tryz.prog.funcs[169]? = some Tryz.f169 ∧ nameOk Tryz.f169 = true ∧ bodyOk Tryz.f169 = true := ⟨Tryz.func169, by kernel_rfl, by kernel_rfl⟩
theorem Tryz.fi170 : Tryz.prog.funcs[170]? = some Tryz.f170 ∧ nameOk Tryz.f170 = true ∧ bodyOk Tryz.f170 = true := ⟨Tryz.func170, by kernel_rfl, by kernel_rfl⟩
theorem Tryz.fi183 : Tryz.prog.funcs[183]? = some Tryz.f183 ∧ nameOk Tryz.f183 = true ∧ bodyOk Tryz.f183 = true := ⟨Tryz.func183, by kernel_rfl, by kernel_rfl⟩
theorem Tryz.tyAll : Tryz.tyTab.All (TIok Tryz.prog) :=
  ⟨⟨⟨⟨⟨⟨⟨⟨trivial, Tryz.ti1, trivial⟩, Tryz.ti2, ⟨trivial, Tryz.ti3, trivial⟩⟩, Tryz.ti4, ⟨⟨trivial, Tryz.ti5, trivial⟩, Tryz.ti6, trivial⟩⟩, Tryz.ti7, ⟨⟨⟨trivial, Tryz.ti8, trivial⟩, Tryz.ti9, trivial⟩, Tryz.ti10, ⟨⟨trivial, Tryz.ti11, trivial⟩, Tryz.ti12, trivial⟩⟩⟩, Tryz.ti13, ⟨⟨⟨⟨trivial, Tryz.ti14, trivial⟩, Tryz.ti15, ⟨trivial, Tryz.ti16, trivial⟩⟩, Tryz.ti17, ⟨⟨trivial, Tryz.ti18, trivial⟩, Tryz.ti19, trivial⟩⟩, Tryz.ti20, ⟨⟨⟨trivial, Tryz.ti21, trivial⟩, Tryz.ti22, trivial⟩, Tryz.ti23, ⟨⟨trivial, Tryz.ti24, trivial⟩, Tryz.ti25, trivial⟩⟩⟩⟩, Tryz.ti26, ⟨⟨⟨⟨⟨trivial, Tryz.ti27, trivial⟩, Tryz.ti29, ⟨trivial, Tryz.ti30, trivial⟩⟩, Tryz.ti32, ⟨⟨trivial, Tryz.ti33, trivial⟩, Tryz.ti34, trivial⟩⟩, Tryz.ti35, ⟨⟨⟨trivial, Tryz.ti36, trivial⟩, Tryz.ti37, trivial⟩, Tryz.ti38, ⟨⟨trivial, Tryz.ti39, trivial⟩, Tryz.ti40, trivial⟩⟩⟩, Tryz.ti41, ⟨⟨⟨⟨trivial, Tryz.ti42, trivial⟩, Tryz.ti43, trivial⟩, Tryz.ti44, ⟨⟨trivial, Tryz.ti45, trivial⟩, Tryz.ti46, trivial⟩⟩, Tryz.ti47, ⟨⟨⟨trivial, Tryz.ti49, trivial⟩, Tryz.ti50, trivial⟩, Tryz.ti51, ⟨⟨trivial, Tryz.ti52, trivial⟩, Tryz.ti53, trivial⟩⟩⟩⟩⟩, Tryz.ti54, ⟨⟨⟨⟨⟨⟨trivial, Tryz.ti55, trivial⟩, Tryz.ti56, ⟨trivial, Tryz.ti57, trivial⟩⟩, Tryz.ti58, ⟨⟨trivial, Tryz.ti59, trivial⟩, Tryz.ti60, trivial⟩⟩, Tryz.ti61, ⟨⟨⟨trivial, Tryz.ti62, trivial⟩, Tryz.ti64, trivial⟩, Tryz.ti65, ⟨⟨trivial, Tryz.ti66, trivial⟩, Tryz.ti67, trivial⟩⟩⟩, Tryz.ti68, ⟨⟨⟨⟨trivial, Tryz.ti69, trivial⟩, Tryz.ti70, ⟨trivial, Tryz.ti71, trivial⟩⟩, Tryz.ti72, ⟨⟨trivial, Tryz.ti73, trivial⟩, Tryz.ti74, trivial⟩⟩, Tryz.ti75, ⟨⟨⟨trivial, Tryz.ti76, trivial⟩, Tryz.ti77, trivial⟩, Tryz.ti79, ⟨⟨trivial, Tryz.ti80, trivial⟩, Tryz.ti81, trivial⟩⟩⟩⟩, Tryz.ti82, ⟨⟨⟨⟨⟨trivial, Tryz.ti83, trivial⟩, Tryz.ti84, ⟨trivial, Tryz.ti85, trivial⟩⟩, Tryz.ti87, ⟨⟨trivial, Tryz.ti88, trivial⟩, Tryz.ti89, trivial⟩⟩, Tryz.ti90, ⟨⟨⟨trivial, Tryz.ti91, trivial⟩, Tryz.ti92, trivial⟩, Tryz.ti93, ⟨⟨trivial, Tryz.ti94, trivial⟩, Tryz.ti95, trivial⟩⟩⟩, Tryz.ti96, ⟨⟨⟨⟨trivial, Tryz.ti97, trivial⟩, Tryz.ti98, trivial⟩, Tryz.ti99, ⟨⟨trivial, Tryz.ti101, trivial⟩, Tryz.ti102, trivial⟩⟩, Tryz.ti104, ⟨⟨⟨trivial, Tryz.ti105, trivial⟩, Tryz.ti106, trivial⟩, Tryz.ti107, ⟨⟨trivial, Tryz.ti108, trivial⟩, Tryz.ti109, trivial⟩⟩⟩⟩⟩⟩, Tryz.ti110, ⟨⟨⟨⟨⟨⟨⟨trivial, Tryz.ti111, trivial⟩, Tryz.ti112, ⟨trivial, Tryz.ti113, trivial⟩⟩, Tryz.ti114, ⟨⟨trivial, Tryz.ti115, trivial⟩, Tryz.ti116, trivial⟩⟩, Tryz.ti117, ⟨⟨⟨trivial, Tryz.ti118, trivial⟩, Tryz.ti119, trivial⟩, Tryz.ti120, ⟨⟨trivial, Tryz.ti121, trivial⟩, Tryz.ti122, trivial⟩⟩⟩, Tryz.ti123, ⟨⟨⟨⟨trivial, Tryz.ti124, trivial⟩, Tryz.ti125, ⟨trivial, Tryz.ti126, trivial⟩⟩, Tryz.ti127, ⟨⟨trivial, Tryz.ti128, trivial⟩, Tryz.ti130, trivial⟩⟩, Tryz.ti131, ⟨⟨⟨trivial, Tryz.ti132, trivial⟩, Tryz.ti133, trivial⟩, Tryz.ti134, ⟨⟨trivial, Tryz.ti135, trivial⟩, Tryz.ti136, trivial⟩⟩⟩⟩, Tryz.ti137, ⟨⟨⟨⟨⟨trivial, Tryz.ti138, trivial⟩, Tryz.ti139, ⟨trivial, Tryz.ti140, trivial⟩⟩, Tryz.ti141, ⟨⟨trivial, Tryz.ti142, trivial⟩, Tryz.ti144, trivial⟩⟩, Tryz.ti145, ⟨⟨⟨trivial, Tryz.ti146, trivial⟩, Tryz.ti147, trivial⟩, Tryz.ti148, ⟨⟨trivial, Tryz.ti149, trivial⟩, Tryz.ti150, trivial⟩⟩⟩, Tryz.ti151, ⟨⟨⟨⟨trivial, Tryz.ti152, trivial⟩, Tryz.ti153, trivial⟩, Tryz.ti154, ⟨⟨trivial, Tryz.ti155, trivial⟩, Tryz.ti156, trivial⟩⟩, Tryz.ti157, ⟨⟨⟨trivial, Tryz.ti158, trivial⟩, Tryz.ti159, trivial⟩, Tryz.ti160, ⟨⟨trivial, Tryz.ti162, trivial⟩, Tryz.ti163, trivial⟩⟩⟩⟩⟩, Tryz.ti165, ⟨⟨⟨⟨⟨⟨trivial, Tryz.ti166, trivial⟩, Tryz.ti167, ⟨trivial, Tryz.ti168, trivial⟩⟩, Tryz.ti169, ⟨⟨trivial, Tryz.ti170, trivial⟩, Tryz.ti171, trivial⟩⟩, Tryz.ti172, ⟨⟨⟨trivial, Tryz.ti173, trivial⟩, Tryz.ti174, trivial⟩, Tryz.ti175, ⟨⟨trivial, Tryz.ti176, trivial⟩, Tryz.ti177, trivial⟩⟩⟩, Tryz.ti178, ⟨⟨⟨⟨trivial, Tryz.ti179, trivial⟩, Tryz.ti180, trivial⟩, Tryz.ti181, ⟨⟨trivial, Tryz.ti182, trivial⟩, Tryz.ti183, trivial⟩⟩, Tryz.ti184, ⟨⟨⟨trivial, Tryz.ti185, trivial⟩, Tryz.ti186, trivial⟩, Tryz.ti187, ⟨⟨trivial, Tryz.ti188, trivial⟩, Tryz.ti189, trivial⟩⟩⟩⟩, Tryz.ti190, ⟨⟨⟨⟨⟨trivial, Tryz.ti191, trivial⟩, Tryz.ti192, ⟨trivial, Tryz.ti193, trivial⟩⟩, Tryz.ti194, ⟨⟨trivial, Tryz.ti195, trivial⟩, Tryz.ti196, trivial⟩⟩, Tryz.ti197, ⟨⟨⟨trivial, Tryz.ti198, trivial⟩, Tryz.ti199, trivial⟩, Tryz.ti200, ⟨⟨trivial, Tryz.ti201, trivial⟩, Tryz.ti202, trivial⟩⟩⟩, Tryz.ti203, ⟨⟨⟨⟨trivial, Tryz.ti204, trivial⟩, Tryz.ti205, trivial⟩, Tryz.ti206, ⟨⟨trivial, Tryz.ti207, trivial⟩, Tryz.ti208, trivial⟩⟩, Tryz.ti209, ⟨⟨⟨trivial, Tryz.ti210, trivial⟩, Tryz.ti211, trivial⟩, Tryz.ti212, ⟨⟨trivial, Tryz.ti213, trivial⟩, Tryz.ti214, trivial⟩⟩⟩⟩⟩⟩⟩
theorem Tryz.fnAll : Tryz.fnTab.All fun f fn => Tryz.prog.funcs[f]? = some fn ∧ nameOk fn = true ∧ bodyOk fn = true :=
  ⟨⟨⟨⟨⟨⟨⟨⟨trivial, Tryz.fi3, trivial⟩, Tryz.fi4, trivial⟩, Tryz.fi5, ⟨⟨trivial, Tryz.fi6, trivial⟩, Tryz.fi7, trivial⟩⟩, Tryz.fi8, ⟨⟨⟨trivial, Tryz.fi9, trivial⟩, Tryz.fi10, trivial⟩, Tryz.fi11, ⟨trivial, Tryz.fi12, trivial⟩⟩⟩, Tryz.fi13, ⟨⟨⟨⟨trivial, Tryz.fi14, trivial⟩, Tryz.fi15, trivial⟩, Tryz.fi16, ⟨⟨trivial, Tryz.fi17, trivial⟩, Tryz.fi18, trivial⟩⟩, Tryz.fi19, ⟨⟨⟨trivial, Tryz.fi20, trivial⟩, Tryz.fi21, trivial⟩, Tryz.fi22, ⟨trivial, Tryz.fi23, trivial⟩⟩⟩⟩, Tryz.fi24, ⟨⟨⟨⟨⟨trivial, Tryz.fi25, trivial⟩, Tryz.fi26, trivial⟩, Tryz.fi27, ⟨⟨trivial, Tryz.fi28, trivial⟩, Tryz.fi29, trivial⟩⟩, Tryz.fi30, ⟨⟨⟨trivial, Tryz.fi31, trivial⟩, Tryz.fi32, trivial⟩, Tryz.fi33, ⟨trivial, Tryz.fi34, trivial⟩⟩⟩, Tryz.fi35, ⟨⟨⟨⟨trivial, Tryz.fi36, trivial⟩, Tryz.fi37, trivial⟩, Tryz.fi38, ⟨trivial, Tryz.fi39, trivial⟩⟩, Tryz.fi40, ⟨⟨⟨trivial, Tryz.fi41, trivial⟩, Tryz.fi42, trivial⟩, Tryz.fi43, ⟨trivial, Tryz.fi44, trivial⟩⟩⟩⟩⟩, Tryz.fi45, ⟨⟨⟨⟨⟨⟨trivial, Tryz.fi46, trivial⟩, Tryz.fi47, trivial⟩, Tryz.fi48, ⟨⟨trivial, Tryz.fi49, trivial⟩, Tryz.fi50, trivial⟩⟩, Tryz.fi51, ⟨⟨⟨trivial, Tryz.fi52, trivial⟩, Tryz.fi53, trivial⟩, Tryz.fi54, ⟨trivial, Tryz.fi55, trivial⟩⟩⟩, Tryz.fi56, ⟨⟨⟨⟨trivial, Tryz.fi57, trivial⟩, Tryz.fi58, trivial⟩, Tryz.fi59, ⟨trivial, Tryz.fi60, trivial⟩⟩, Tryz.fi61, ⟨⟨⟨trivial, Tryz.fi62, trivial⟩, Tryz.fi63, trivial⟩, Tryz.fi64, ⟨trivial, Tryz.fi65, trivial⟩⟩⟩⟩, Tryz.fi66, ⟨⟨⟨⟨⟨trivial, Tryz.fi67, trivial⟩, Tryz.fi68, trivial⟩, Tryz.fi69, ⟨⟨trivial, Tryz.fi70, trivial⟩, Tryz.fi71, trivial⟩⟩, Tryz.fi72, ⟨⟨⟨trivial, Tryz.fi73, trivial⟩, Tryz.fi74, trivial⟩, Tryz.fi75, ⟨trivial, Tryz.fi76, trivial⟩⟩⟩, Tryz.fi77, ⟨⟨⟨⟨trivial, Tryz.fi78, trivial⟩, Tryz.fi79, trivial⟩, Tryz.fi80, ⟨trivial, Tryz.fi81, trivial⟩⟩, Tryz.fi82, ⟨⟨⟨trivial, Tryz.fi83, trivial⟩, Tryz.fi84, trivial⟩, Tryz.fi85, ⟨trivial, Tryz.fi86, trivial⟩⟩⟩⟩⟩⟩, Tryz.fi87, ⟨⟨⟨⟨⟨⟨⟨trivial, Tryz.fi88, trivial⟩, Tryz.fi89, trivial⟩, Tryz.fi90, ⟨⟨trivial, Tryz.fi91, trivial⟩, Tryz.fi92, trivial⟩⟩, Tryz.fi93, ⟨⟨⟨trivial, Tryz.fi94, trivial⟩, Tryz.fi95, trivial⟩, Tryz.fi96, ⟨trivial, Tryz.fi97, trivial⟩⟩⟩, Tryz.fi98, ⟨⟨⟨⟨trivial, Tryz.fi99, trivial⟩, Tryz.fi100, trivial⟩, Tryz.fi101, ⟨⟨trivial, Tryz.fi102, trivial⟩, Tryz.fi103, trivial⟩⟩, Tryz.fi104, ⟨⟨⟨trivial, Tryz.fi105, trivial⟩, Tryz.fi106, trivial⟩, Tryz.fi107, ⟨trivial, Tryz.fi108, trivial⟩⟩⟩⟩, Tryz.fi109, ⟨⟨⟨⟨⟨trivial, Tryz.fi110, trivial⟩, Tryz.fi111, trivial⟩, Tryz.fi112, ⟨⟨trivial, Tryz.fi113, trivial⟩, Tryz.fi114, trivial⟩⟩, Tryz.fi115, ⟨⟨⟨trivial, Tryz.fi116, trivial⟩, Tryz.fi117, trivial⟩, Tryz.fi118, ⟨trivial, Tryz.fi119, trivial⟩⟩⟩, Tryz.fi120, ⟨⟨⟨⟨trivial, Tryz.fi121, trivial⟩, Tryz.fi122, trivial⟩, Tryz.fi123, ⟨trivial, Tryz.fi124, trivial⟩⟩, Tryz.fi125, ⟨⟨⟨trivial, Tryz.fi126, trivial⟩, Tryz.fi127, trivial⟩, Tryz.fi128, ⟨trivial, Tryz.fi129, trivial⟩⟩⟩⟩⟩, Tryz.fi130, ⟨⟨⟨⟨⟨⟨trivial, Tryz.fi131, trivial⟩, Tryz.fi132, trivial⟩, Tryz.fi133, ⟨⟨trivial, Tryz.fi134, trivial⟩, Tryz.fi135, trivial⟩⟩, Tryz.fi136, ⟨⟨⟨trivial, Tryz.fi137, trivial⟩, Tryz.fi138, trivial⟩, Tryz.fi139, ⟨trivial, Tryz.fi140, trivial⟩⟩⟩, Tryz.fi141, ⟨⟨⟨⟨trivial, Tryz.fi142, trivial⟩, Tryz.fi143, trivial⟩, Tryz.fi144, ⟨trivial, Tryz.fi145, trivial⟩⟩, Tryz.fi146, ⟨⟨⟨trivial, Tryz.fi147, trivial⟩, Tryz.fi148, trivial⟩, Tryz.fi149, ⟨trivial, Tryz.fi150, trivial⟩⟩⟩⟩, Tryz.fi151, ⟨⟨⟨⟨⟨trivial, Tryz.fi152, trivial⟩, Tryz.fi153, trivial⟩, Tryz.fi154, ⟨⟨trivial, Tryz.fi155, trivial⟩, Tryz.fi156, trivial⟩⟩, Tryz.fi157, ⟨⟨⟨trivial, Tryz.fi158, trivial⟩, Tryz.fi159, trivial⟩, Tryz.fi160, ⟨trivial, Tryz.fi161, trivial⟩⟩⟩, Tryz.fi162, ⟨⟨⟨⟨trivial, Tryz.fi163, trivial⟩, Tryz.fi164, trivial⟩, Tryz.fi165, ⟨trivial, Tryz.fi166, trivial⟩⟩, Tryz.fi167, ⟨⟨⟨trivial, Tryz.fi168, trivial⟩, Tryz.fi169, trivial⟩, Tryz.fi170, ⟨trivial, Tryz.fi183, trivial⟩⟩⟩⟩⟩⟩⟩
theorem Tryz.tabOk : TabOk Tryz.prog Tryz.tab ∧ CodesOk Tryz.tab := tabOk_of Tryz.tyAll Tryz.fnAll (by kernel_rfl)
end Go.Proofs
