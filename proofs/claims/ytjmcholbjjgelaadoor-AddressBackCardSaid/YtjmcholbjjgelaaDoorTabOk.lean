/- The tables are the program's. -/
import Derived.Test.YtjmcholbjjgelaaDoorSxTop
import Derived.Test.YtjmcholbjjgelaaDoorTab
import Derived.Test.YtjmcholbjjgelaaDoorChecked
import Derived.KernelRfl
open Go Go.Sx
namespace Go.Proofs
set_option maxRecDepth 100000
theorem Tryd.ti1 : TIok Tryd.prog 1 ⟨.other, 1, 8, [.nilFunc]⟩ := ⟨by kernel_rfl, by kernel_rfl, by kernel_rfl, by kernel_rfl⟩
theorem Tryd.ti2 : TIok Tryd.prog 2 ⟨.int .i64, 1, 8, [.int .i64 0]⟩ := ⟨by kernel_rfl, by kernel_rfl, by kernel_rfl, by kernel_rfl⟩
theorem Tryd.ti3 : TIok Tryd.prog 3 ⟨.int .i64, 1, 8, [.int .i64 0]⟩ := ⟨by kernel_rfl, by kernel_rfl, by kernel_rfl, by kernel_rfl⟩
theorem Tryd.ti4 : TIok Tryd.prog 4 ⟨.other, 1, 1, [.bool false]⟩ := ⟨by kernel_rfl, by kernel_rfl, by kernel_rfl, by kernel_rfl⟩
theorem Tryd.ti5 : TIok Tryd.prog 5 ⟨.int .u8, 1, 1, [.int .u8 0]⟩ := ⟨by kernel_rfl, by kernel_rfl, by kernel_rfl, by kernel_rfl⟩
theorem Tryd.ti6 : TIok Tryd.prog 6 ⟨.int .u8, 1, 1, [.int .u8 0]⟩ := ⟨by kernel_rfl, by kernel_rfl, by kernel_rfl, by kernel_rfl⟩
theorem Tryd.ti7 : TIok Tryd.prog 7 ⟨.struct [(0, 2), (1, 3), (2, 4), (3, 6)], 4, 24, [.int .i64 0, .int .i64 0, .bool false, .int .u8 0]⟩ := ⟨by kernel_rfl, by kernel_rfl, by kernel_rfl, by kernel_rfl⟩
theorem Tryd.ti8 : TIok Tryd.prog 8 ⟨.struct [(0, 2), (1, 3), (2, 4), (3, 6)], 4, 24, [.int .i64 0, .int .i64 0, .bool false, .int .u8 0]⟩ := ⟨by kernel_rfl, by kernel_rfl, by kernel_rfl, by kernel_rfl⟩
theorem Tryd.ti9 : TIok Tryd.prog 9 ⟨.str, 1, 16, [.string ⟨#[]⟩]⟩ := ⟨by kernel_rfl, by kernel_rfl, by kernel_rfl, by kernel_rfl⟩
theorem Tryd.ti10 : TIok Tryd.prog 10 ⟨.str, 1, 16, [.string ⟨#[]⟩]⟩ := ⟨by kernel_rfl, by kernel_rfl, by kernel_rfl, by kernel_rfl⟩
theorem Tryd.ti11 : TIok Tryd.prog 11 ⟨.str, 1, 16, [.string ⟨#[]⟩]⟩ := ⟨by kernel_rfl, by kernel_rfl, by kernel_rfl, by kernel_rfl⟩
theorem Tryd.ti12 : TIok Tryd.prog 12 ⟨.int .u64, 1, 8, [.int .u64 0]⟩ := ⟨by kernel_rfl, by kernel_rfl, by kernel_rfl, by kernel_rfl⟩
theorem Tryd.ti13 : TIok Tryd.prog 13 ⟨.struct [(0, 9), (1, 12)], 2, 24, [.string ⟨#[]⟩, .int .u64 0]⟩ := ⟨by kernel_rfl, by kernel_rfl, by kernel_rfl, by kernel_rfl⟩
theorem Tryd.ti14 : TIok Tryd.prog 14 ⟨.struct [(0, 9), (1, 12)], 2, 24, [.string ⟨#[]⟩, .int .u64 0]⟩ := ⟨by kernel_rfl, by kernel_rfl, by kernel_rfl, by kernel_rfl⟩
theorem Tryd.ti15 : TIok Tryd.prog 15 ⟨.ptr 101, 1, 8, [.pointer none]⟩ := ⟨by kernel_rfl, by kernel_rfl, by kernel_rfl, by kernel_rfl⟩
theorem Tryd.ti16 : TIok Tryd.prog 16 ⟨.ptr 104, 1, 8, [.pointer none]⟩ := ⟨by kernel_rfl, by kernel_rfl, by kernel_rfl, by kernel_rfl⟩
theorem Tryd.ti17 : TIok Tryd.prog 17 ⟨.ptr 111, 1, 8, [.pointer none]⟩ := ⟨by kernel_rfl, by kernel_rfl, by kernel_rfl, by kernel_rfl⟩
theorem Tryd.ti18 : TIok Tryd.prog 18 ⟨.struct [(0, 17)], 1, 8, [.pointer none]⟩ := ⟨by kernel_rfl, by kernel_rfl, by kernel_rfl, by kernel_rfl⟩
theorem Tryd.ti19 : TIok Tryd.prog 19 ⟨.struct [(0, 17)], 1, 8, [.pointer none]⟩ := ⟨by kernel_rfl, by kernel_rfl, by kernel_rfl, by kernel_rfl⟩
theorem Tryd.ti20 : TIok Tryd.prog 20 ⟨.other, 1, 16, [.nilIface]⟩ := ⟨by kernel_rfl, by kernel_rfl, by kernel_rfl, by kernel_rfl⟩
theorem Tryd.ti21 : TIok Tryd.prog 21 ⟨.int .i32, 1, 4, [.int .i32 0]⟩ := ⟨by kernel_rfl, by kernel_rfl, by kernel_rfl, by kernel_rfl⟩
theorem Tryd.ti22 : TIok Tryd.prog 22 ⟨.slice 5, 1, 24, [.slice none 0 0]⟩ := ⟨by kernel_rfl, by kernel_rfl, by kernel_rfl, by kernel_rfl⟩
theorem Tryd.ti23 : TIok Tryd.prog 23 ⟨.other, 1, 8, [.nilFunc]⟩ := ⟨by kernel_rfl, by kernel_rfl, by kernel_rfl, by kernel_rfl⟩
theorem Tryd.ti24 : TIok Tryd.prog 24 ⟨.other, 1, 8, [.nilFunc]⟩ := ⟨by kernel_rfl, by kernel_rfl, by kernel_rfl, by kernel_rfl⟩
theorem Tryd.ti25 : TIok Tryd.prog 25 ⟨.int .i64, 1, 8, [.int .i64 0]⟩ := ⟨by kernel_rfl, by kernel_rfl, by kernel_rfl, by kernel_rfl⟩
theorem Tryd.ti27 : TIok Tryd.prog 27 ⟨.other, 1, 8, [.nilFunc]⟩ := ⟨by kernel_rfl, by kernel_rfl, by kernel_rfl, by kernel_rfl⟩
theorem Tryd.ti28 : TIok Tryd.prog 28 ⟨.other, 1, 8, [.nilFunc]⟩ := ⟨by kernel_rfl, by kernel_rfl, by kernel_rfl, by kernel_rfl⟩
theorem Tryd.ti29 : TIok Tryd.prog 29 ⟨.other, 1, 8, [.nilFunc]⟩ := ⟨by kernel_rfl, by kernel_rfl, by kernel_rfl, by kernel_rfl⟩
theorem Tryd.ti30 : TIok Tryd.prog 30 ⟨.other, 1, 8, [.nilFunc]⟩ := ⟨by kernel_rfl, by kernel_rfl, by kernel_rfl, by kernel_rfl⟩
theorem Tryd.ti32 : TIok Tryd.prog 32 ⟨.other, 1, 8, [.nilFunc]⟩ := ⟨by kernel_rfl, by kernel_rfl, by kernel_rfl, by kernel_rfl⟩
theorem Tryd.ti33 : TIok Tryd.prog 33 ⟨.other, 1, 8, [.nilFunc]⟩ := ⟨by kernel_rfl, by kernel_rfl, by kernel_rfl, by kernel_rfl⟩
theorem Tryd.ti34 : TIok Tryd.prog 34 ⟨.other, 1, 8, [.nilFunc]⟩ := ⟨by kernel_rfl, by kernel_rfl, by kernel_rfl, by kernel_rfl⟩
theorem Tryd.ti36 : TIok Tryd.prog 36 ⟨.other, 1, 8, [.nilFunc]⟩ := ⟨by kernel_rfl, by kernel_rfl, by kernel_rfl, by kernel_rfl⟩
theorem Tryd.ti37 : TIok Tryd.prog 37 ⟨.other, 1, 8, [.nilFunc]⟩ := ⟨by kernel_rfl, by kernel_rfl, by kernel_rfl, by kernel_rfl⟩
theorem Tryd.ti38 : TIok Tryd.prog 38 ⟨.other, 1, 8, [.nilFunc]⟩ := ⟨by kernel_rfl, by kernel_rfl, by kernel_rfl, by kernel_rfl⟩
theorem Tryd.ti39 : TIok Tryd.prog 39 ⟨.other, 1, 8, [.nilFunc]⟩ := ⟨by kernel_rfl, by kernel_rfl, by kernel_rfl, by kernel_rfl⟩
theorem Tryd.ti40 : TIok Tryd.prog 40 ⟨.slice 3, 1, 24, [.slice none 0 0]⟩ := ⟨by kernel_rfl, by kernel_rfl, by kernel_rfl, by kernel_rfl⟩
theorem Tryd.ti41 : TIok Tryd.prog 41 ⟨.other, 1, 8, [.nilFunc]⟩ := ⟨by kernel_rfl, by kernel_rfl, by kernel_rfl, by kernel_rfl⟩
theorem Tryd.ti42 : TIok Tryd.prog 42 ⟨.other, 1, 8, [.nilFunc]⟩ := ⟨by kernel_rfl, by kernel_rfl, by kernel_rfl, by kernel_rfl⟩
theorem Tryd.ti43 : TIok Tryd.prog 43 ⟨.other, 1, 8, [.nilFunc]⟩ := ⟨by kernel_rfl, by kernel_rfl, by kernel_rfl, by kernel_rfl⟩
theorem Tryd.ti44 : TIok Tryd.prog 44 ⟨.other, 1, 8, [.nilFunc]⟩ := ⟨by kernel_rfl, by kernel_rfl, by kernel_rfl, by kernel_rfl⟩
theorem Tryd.ti45 : TIok Tryd.prog 45 ⟨.other, 1, 8, [.nilFunc]⟩ := ⟨by kernel_rfl, by kernel_rfl, by kernel_rfl, by kernel_rfl⟩
theorem Tryd.ti46 : TIok Tryd.prog 46 ⟨.other, 1, 8, [.nilFunc]⟩ := ⟨by kernel_rfl, by kernel_rfl, by kernel_rfl, by kernel_rfl⟩
theorem Tryd.ti47 : TIok Tryd.prog 47 ⟨.other, 1, 8, [.nilFunc]⟩ := ⟨by kernel_rfl, by kernel_rfl, by kernel_rfl, by kernel_rfl⟩
theorem Tryd.ti48 : TIok Tryd.prog 48 ⟨.slice 9, 1, 24, [.slice none 0 0]⟩ := ⟨by kernel_rfl, by kernel_rfl, by kernel_rfl, by kernel_rfl⟩
theorem Tryd.ti49 : TIok Tryd.prog 49 ⟨.other, 1, 8, [.nilFunc]⟩ := ⟨by kernel_rfl, by kernel_rfl, by kernel_rfl, by kernel_rfl⟩
theorem Tryd.ti50 : TIok Tryd.prog 50 ⟨.ptr 72, 1, 8, [.pointer none]⟩ := ⟨by kernel_rfl, by kernel_rfl, by kernel_rfl, by kernel_rfl⟩
theorem Tryd.ti52 : TIok Tryd.prog 52 ⟨.other, 1, 8, [.nilFunc]⟩ := ⟨by kernel_rfl, by kernel_rfl, by kernel_rfl, by kernel_rfl⟩
theorem Tryd.ti53 : TIok Tryd.prog 53 ⟨.other, 1, 8, [.nilFunc]⟩ := ⟨by kernel_rfl, by kernel_rfl, by kernel_rfl, by kernel_rfl⟩
theorem Tryd.ti54 : TIok Tryd.prog 54 ⟨.other, 1, 8, [.nilFunc]⟩ := ⟨by kernel_rfl, by kernel_rfl, by kernel_rfl, by kernel_rfl⟩
theorem Tryd.ti55 : TIok Tryd.prog 55 ⟨.other, 1, 8, [.nilFunc]⟩ := ⟨by kernel_rfl, by kernel_rfl, by kernel_rfl, by kernel_rfl⟩
theorem Tryd.ti56 : TIok Tryd.prog 56 ⟨.int .u64, 1, 8, [.int .u64 0]⟩ := ⟨by kernel_rfl, by kernel_rfl, by kernel_rfl, by kernel_rfl⟩
theorem Tryd.ti58 : TIok Tryd.prog 58 ⟨.other, 1, 8, [.nilFunc]⟩ := ⟨by kernel_rfl, by kernel_rfl, by kernel_rfl, by kernel_rfl⟩
theorem Tryd.ti59 : TIok Tryd.prog 59 ⟨.ptr 61, 1, 8, [.pointer none]⟩ := ⟨by kernel_rfl, by kernel_rfl, by kernel_rfl, by kernel_rfl⟩
theorem Tryd.ti60 : TIok Tryd.prog 60 ⟨.struct [(0, 59), (1, 22)], 2, 32, [.pointer none, .slice none 0 0]⟩ := ⟨by kernel_rfl, by kernel_rfl, by kernel_rfl, by kernel_rfl⟩
theorem Tryd.ti61 : TIok Tryd.prog 61 ⟨.struct [(0, 59), (1, 22)], 2, 32, [.pointer none, .slice none 0 0]⟩ := ⟨by kernel_rfl, by kernel_rfl, by kernel_rfl, by kernel_rfl⟩
theorem Tryd.ti62 : TIok Tryd.prog 62 ⟨.other, 1, 8, [.nilFunc]⟩ := ⟨by kernel_rfl, by kernel_rfl, by kernel_rfl, by kernel_rfl⟩
theorem Tryd.ti63 : TIok Tryd.prog 63 ⟨.other, 1, 16, [.nilIface]⟩ := ⟨by kernel_rfl, by kernel_rfl, by kernel_rfl, by kernel_rfl⟩
theorem Tryd.ti64 : TIok Tryd.prog 64 ⟨.other, 1, 16, [.nilIface]⟩ := ⟨by kernel_rfl, by kernel_rfl, by kernel_rfl, by kernel_rfl⟩
theorem Tryd.ti66 : TIok Tryd.prog 66 ⟨.other, 1, 8, [.nilFunc]⟩ := ⟨by kernel_rfl, by kernel_rfl, by kernel_rfl, by kernel_rfl⟩
theorem Tryd.ti67 : TIok Tryd.prog 67 ⟨.other, 1, 8, [.nilFunc]⟩ := ⟨by kernel_rfl, by kernel_rfl, by kernel_rfl, by kernel_rfl⟩
theorem Tryd.ti68 : TIok Tryd.prog 68 ⟨.other, 1, 8, [.nilFunc]⟩ := ⟨by kernel_rfl, by kernel_rfl, by kernel_rfl, by kernel_rfl⟩
theorem Tryd.ti69 : TIok Tryd.prog 69 ⟨.other, 1, 8, [.nilFunc]⟩ := ⟨by kernel_rfl, by kernel_rfl, by kernel_rfl, by kernel_rfl⟩
theorem Tryd.ti70 : TIok Tryd.prog 70 ⟨.other, 1, 8, [.nilFunc]⟩ := ⟨by kernel_rfl, by kernel_rfl, by kernel_rfl, by kernel_rfl⟩
theorem Tryd.ti71 : TIok Tryd.prog 71 ⟨.struct [(0, 48), (1, 40)], 2, 48, [.slice none 0 0, .slice none 0 0]⟩ := ⟨by kernel_rfl, by kernel_rfl, by kernel_rfl, by kernel_rfl⟩
theorem Tryd.ti72 : TIok Tryd.prog 72 ⟨.struct [(0, 48), (1, 40)], 2, 48, [.slice none 0 0, .slice none 0 0]⟩ := ⟨by kernel_rfl, by kernel_rfl, by kernel_rfl, by kernel_rfl⟩
theorem Tryd.ti73 : TIok Tryd.prog 73 ⟨.other, 1, 8, [.nilFunc]⟩ := ⟨by kernel_rfl, by kernel_rfl, by kernel_rfl, by kernel_rfl⟩
theorem Tryd.ti74 : TIok Tryd.prog 74 ⟨.int .u32, 1, 4, [.int .u32 0]⟩ := ⟨by kernel_rfl, by kernel_rfl, by kernel_rfl, by kernel_rfl⟩
theorem Tryd.ti76 : TIok Tryd.prog 76 ⟨.other, 1, 8, [.nilFunc]⟩ := ⟨by kernel_rfl, by kernel_rfl, by kernel_rfl, by kernel_rfl⟩
theorem Tryd.ti77 : TIok Tryd.prog 77 ⟨.int .u64, 1, 8, [.int .u64 0]⟩ := ⟨by kernel_rfl, by kernel_rfl, by kernel_rfl, by kernel_rfl⟩
theorem Tryd.ti79 : TIok Tryd.prog 79 ⟨.other, 1, 8, [.nilFunc]⟩ := ⟨by kernel_rfl, by kernel_rfl, by kernel_rfl, by kernel_rfl⟩
theorem Tryd.ti80 : TIok Tryd.prog 80 ⟨.ptr 5, 1, 8, [.pointer none]⟩ := ⟨by kernel_rfl, by kernel_rfl, by kernel_rfl, by kernel_rfl⟩
theorem Tryd.ti81 : TIok Tryd.prog 81 ⟨.other, 1, 8, [.nilFunc]⟩ := ⟨by kernel_rfl, by kernel_rfl, by kernel_rfl, by kernel_rfl⟩
theorem Tryd.ti82 : TIok Tryd.prog 82 ⟨.uptr, 1, 8, [.pointer none]⟩ := ⟨by kernel_rfl, by kernel_rfl, by kernel_rfl, by kernel_rfl⟩
theorem Tryd.ti83 : TIok Tryd.prog 83 ⟨.other, 1, 8, [.nilFunc]⟩ := ⟨by kernel_rfl, by kernel_rfl, by kernel_rfl, by kernel_rfl⟩
theorem Tryd.ti84 : TIok Tryd.prog 84 ⟨.other, 1, 8, [.nilFunc]⟩ := ⟨by kernel_rfl, by kernel_rfl, by kernel_rfl, by kernel_rfl⟩
theorem Tryd.ti85 : TIok Tryd.prog 85 ⟨.other, 1, 8, [.nilFunc]⟩ := ⟨by kernel_rfl, by kernel_rfl, by kernel_rfl, by kernel_rfl⟩
theorem Tryd.ti86 : TIok Tryd.prog 86 ⟨.array 24 5, 24, 24, [.int .u8 0, .int .u8 0, .int .u8 0, .int .u8 0, .int .u8 0, .int .u8 0, .int .u8 0, .int .u8 0, .int .u8 0, .int .u8 0, .int .u8 0, .int .u8 0, .int .u8 0, .int .u8 0, .int .u8 0, .int .u8 0, .int .u8 0, .int .u8 0, .int .u8 0, .int .u8 0, .int .u8 0, .int .u8 0, .int .u8 0, .int .u8 0]⟩ := ⟨by kernel_rfl, by kernel_rfl, by kernel_rfl, by kernel_rfl⟩
theorem Tryd.ti87 : TIok Tryd.prog 87 ⟨.other, 1, 8, [.nilFunc]⟩ := ⟨by kernel_rfl, by kernel_rfl, by kernel_rfl, by kernel_rfl⟩
theorem Tryd.ti88 : TIok Tryd.prog 88 ⟨.other, 1, 8, [.nilFunc]⟩ := ⟨by kernel_rfl, by kernel_rfl, by kernel_rfl, by kernel_rfl⟩
theorem Tryd.ti90 : TIok Tryd.prog 90 ⟨.other, 1, 8, [.nilFunc]⟩ := ⟨by kernel_rfl, by kernel_rfl, by kernel_rfl, by kernel_rfl⟩
theorem Tryd.ti91 : TIok Tryd.prog 91 ⟨.other, 1, 8, [.nilFunc]⟩ := ⟨by kernel_rfl, by kernel_rfl, by kernel_rfl, by kernel_rfl⟩
theorem Tryd.ti92 : TIok Tryd.prog 92 ⟨.other, 1, 8, [.nilFunc]⟩ := ⟨by kernel_rfl, by kernel_rfl, by kernel_rfl, by kernel_rfl⟩
theorem Tryd.ti93 : TIok Tryd.prog 93 ⟨.array 20 77, 20, 160, [.int .u64 0, .int .u64 0, .int .u64 0, .int .u64 0, .int .u64 0, .int .u64 0, .int .u64 0, .int .u64 0, .int .u64 0, .int .u64 0, .int .u64 0, .int .u64 0, .int .u64 0, .int .u64 0, .int .u64 0, .int .u64 0, .int .u64 0, .int .u64 0, .int .u64 0, .int .u64 0]⟩ := ⟨by kernel_rfl, by kernel_rfl, by kernel_rfl, by kernel_rfl⟩
theorem Tryd.ti94 : TIok Tryd.prog 94 ⟨.array 65 5, 65, 65, [.int .u8 0, .int .u8 0, .int .u8 0, .int .u8 0, .int .u8 0, .int .u8 0, .int .u8 0, .int .u8 0, .int .u8 0, .int .u8 0, .int .u8 0, .int .u8 0, .int .u8 0, .int .u8 0, .int .u8 0, .int .u8 0, .int .u8 0, .int .u8 0, .int .u8 0, .int .u8 0, .int .u8 0, .int .u8 0, .int .u8 0, .int .u8 0, .int .u8 0, .int .u8 0, .int .u8 0, .int .u8 0, .int .u8 0, .int .u8 0, .int .u8 0, .int .u8 0, .int .u8 0, .int .u8 0, .int .u8 0, .int .u8 0, .int .u8 0, .int .u8 0, .int .u8 0, .int .u8 0, .int .u8 0, .int .u8 0, .int .u8 0, .int .u8 0, .int .u8 0, .int .u8 0, .int .u8 0, .int .u8 0, .int .u8 0, .int .u8 0, .int .u8 0, .int .u8 0, .int .u8 0, .int .u8 0, .int .u8 0, .int .u8 0, .int .u8 0, .int .u8 0, .int .u8 0, .int .u8 0, .int .u8 0, .int .u8 0, .int .u8 0, .int .u8 0, .int .u8 0]⟩ := ⟨by kernel_rfl, by kernel_rfl, by kernel_rfl, by kernel_rfl⟩
theorem Tryd.ti95 : TIok Tryd.prog 95 ⟨.other, 1, 8, [.nilFunc]⟩ := ⟨by kernel_rfl, by kernel_rfl, by kernel_rfl, by kernel_rfl⟩
theorem Tryd.ti96 : TIok Tryd.prog 96 ⟨.other, 1, 8, [.nilFunc]⟩ := ⟨by kernel_rfl, by kernel_rfl, by kernel_rfl, by kernel_rfl⟩
theorem Tryd.ti97 : TIok Tryd.prog 97 ⟨.other, 1, 8, [.nilFunc]⟩ := ⟨by kernel_rfl, by kernel_rfl, by kernel_rfl, by kernel_rfl⟩
theorem Tryd.ti98 : TIok Tryd.prog 98 ⟨.array 32 5, 32, 32, [.int .u8 0, .int .u8 0, .int .u8 0, .int .u8 0, .int .u8 0, .int .u8 0, .int .u8 0, .int .u8 0, .int .u8 0, .int .u8 0, .int .u8 0, .int .u8 0, .int .u8 0, .int .u8 0, .int .u8 0, .int .u8 0, .int .u8 0, .int .u8 0, .int .u8 0, .int .u8 0, .int .u8 0, .int .u8 0, .int .u8 0, .int .u8 0, .int .u8 0, .int .u8 0, .int .u8 0, .int .u8 0, .int .u8 0, .int .u8 0, .int .u8 0, .int .u8 0]⟩ := ⟨by kernel_rfl, by kernel_rfl, by kernel_rfl, by kernel_rfl⟩
theorem Tryd.ti99 : TIok Tryd.prog 99 ⟨.array 64 5, 64, 64, [.int .u8 0, .int .u8 0, .int .u8 0, .int .u8 0, .int .u8 0, .int .u8 0, .int .u8 0, .int .u8 0, .int .u8 0, .int .u8 0, .int .u8 0, .int .u8 0, .int .u8 0, .int .u8 0, .int .u8 0, .int .u8 0, .int .u8 0, .int .u8 0, .int .u8 0, .int .u8 0, .int .u8 0, .int .u8 0, .int .u8 0, .int .u8 0, .int .u8 0, .int .u8 0, .int .u8 0, .int .u8 0, .int .u8 0, .int .u8 0, .int .u8 0, .int .u8 0, .int .u8 0, .int .u8 0, .int .u8 0, .int .u8 0, .int .u8 0, .int .u8 0, .int .u8 0, .int .u8 0, .int .u8 0, .int .u8 0, .int .u8 0, .int .u8 0, .int .u8 0, .int .u8 0, .int .u8 0, .int .u8 0, .int .u8 0, .int .u8 0, .int .u8 0, .int .u8 0, .int .u8 0, .int .u8 0, .int .u8 0, .int .u8 0, .int .u8 0, .int .u8 0, .int .u8 0, .int .u8 0, .int .u8 0, .int .u8 0, .int .u8 0, .int .u8 0]⟩ := ⟨by kernel_rfl, by kernel_rfl, by kernel_rfl, by kernel_rfl⟩
theorem Tryd.ti100 : TIok Tryd.prog 100 ⟨.struct [(0, 17), (1, 17), (2, 17), (3, 9)], 4, 40, [.pointer none, .pointer none, .pointer none, .string ⟨#[]⟩]⟩ := ⟨by kernel_rfl, by kernel_rfl, by kernel_rfl, by kernel_rfl⟩
theorem Tryd.ti101 : TIok Tryd.prog 101 ⟨.struct [(0, 17), (1, 17), (2, 17), (3, 9)], 4, 40, [.pointer none, .pointer none, .pointer none, .string ⟨#[]⟩]⟩ := ⟨by kernel_rfl, by kernel_rfl, by kernel_rfl, by kernel_rfl⟩
theorem Tryd.ti102 : TIok Tryd.prog 102 ⟨.array 0 16, 0, 0, []⟩ := ⟨by kernel_rfl, by kernel_rfl, by kernel_rfl, by kernel_rfl⟩
theorem Tryd.ti103 : TIok Tryd.prog 103 ⟨.struct [(0, 102)], 0, 0, []⟩ := ⟨by kernel_rfl, by kernel_rfl, by kernel_rfl, by kernel_rfl⟩
theorem Tryd.ti104 : TIok Tryd.prog 104 ⟨.struct [(0, 102)], 0, 0, []⟩ := ⟨by kernel_rfl, by kernel_rfl, by kernel_rfl, by kernel_rfl⟩
theorem Tryd.ti105 : TIok Tryd.prog 105 ⟨.int .u8, 1, 1, [.int .u8 0]⟩ := ⟨by kernel_rfl, by kernel_rfl, by kernel_rfl, by kernel_rfl⟩
theorem Tryd.ti106 : TIok Tryd.prog 106 ⟨.int .u8, 1, 1, [.int .u8 0]⟩ := ⟨by kernel_rfl, by kernel_rfl, by kernel_rfl, by kernel_rfl⟩
theorem Tryd.ti107 : TIok Tryd.prog 107 ⟨.other, 1, 8, [.nilFunc]⟩ := ⟨by kernel_rfl, by kernel_rfl, by kernel_rfl, by kernel_rfl⟩
theorem Tryd.ti108 : TIok Tryd.prog 108 ⟨.int .i32, 1, 4, [.int .i32 0]⟩ := ⟨by kernel_rfl, by kernel_rfl, by kernel_rfl, by kernel_rfl⟩
theorem Tryd.ti109 : TIok Tryd.prog 109 ⟨.int .i32, 1, 4, [.int .i32 0]⟩ := ⟨by kernel_rfl, by kernel_rfl, by kernel_rfl, by kernel_rfl⟩
theorem Tryd.ti110 : TIok Tryd.prog 110 ⟨.struct [(0, 12), (1, 12), (2, 74), (3, 105), (4, 5), (5, 5), (6, 106), (7, 107), (8, 80), (9, 108), (10, 109)], 11, 48, [.int .u64 0, .int .u64 0, .int .u32 0, .int .u8 0, .int .u8 0, .int .u8 0, .int .u8 0, .nilFunc, .pointer none, .int .i32 0, .int .i32 0]⟩ := ⟨by kernel_rfl, by kernel_rfl, by kernel_rfl, by kernel_rfl⟩
theorem Tryd.ti111 : TIok Tryd.prog 111 ⟨.struct [(0, 12), (1, 12), (2, 74), (3, 105), (4, 5), (5, 5), (6, 106), (7, 107), (8, 80), (9, 108), (10, 109)], 11, 48, [.int .u64 0, .int .u64 0, .int .u32 0, .int .u8 0, .int .u8 0, .int .u8 0, .int .u8 0, .nilFunc, .pointer none, .int .i32 0, .int .i32 0]⟩ := ⟨by kernel_rfl, by kernel_rfl, by kernel_rfl, by kernel_rfl⟩
theorem Tryd.fi3 : Tryd.prog.funcs[3]? = some Tryd.f3 ∧ nameOk Tryd.f3 = true ∧ bodyOk Tryd.f3 = true := ⟨Tryd.func3, by kernel_rfl, by kernel_rfl⟩
theorem Tryd.fi4 : Tryd.prog.funcs[4]? = some Tryd.f4 ∧ nameOk Tryd.f4 = true ∧ bodyOk Tryd.f4 = true := ⟨Tryd.func4, by kernel_rfl, by kernel_rfl⟩
theorem Tryd.fi5 : Tryd.prog.funcs[5]? = some Tryd.f5 ∧ nameOk Tryd.f5 = true ∧ bodyOk Tryd.f5 = true := ⟨Tryd.func5, by kernel_rfl, by kernel_rfl⟩
theorem Tryd.fi6 : Tryd.prog.funcs[6]? = some Tryd.f6 ∧ nameOk Tryd.f6 = true ∧ bodyOk Tryd.f6 = true := ⟨Tryd.func6, by kernel_rfl, by kernel_rfl⟩
theorem Tryd.fi7 : Tryd.prog.funcs[7]? = some Tryd.f7 ∧ nameOk Tryd.f7 = true ∧ bodyOk Tryd.f7 = true := ⟨Tryd.func7, by kernel_rfl, by kernel_rfl⟩
theorem Tryd.fi8 : Tryd.prog.funcs[8]? = some Tryd.f8 ∧ nameOk Tryd.f8 = true ∧ bodyOk Tryd.f8 = true := ⟨Tryd.func8, by kernel_rfl, by kernel_rfl⟩
theorem Tryd.fi9 : Tryd.prog.funcs[9]? = some Tryd.f9 ∧ nameOk Tryd.f9 = true ∧ bodyOk Tryd.f9 = true := ⟨Tryd.func9, by kernel_rfl, by kernel_rfl⟩
theorem Tryd.fi10 : Tryd.prog.funcs[10]? = some Tryd.f10 ∧ nameOk Tryd.f10 = true ∧ bodyOk Tryd.f10 = true := ⟨Tryd.func10, by kernel_rfl, by kernel_rfl⟩
theorem Tryd.fi11 : Tryd.prog.funcs[11]? = some Tryd.f11 ∧ nameOk Tryd.f11 = true ∧ bodyOk Tryd.f11 = true := ⟨Tryd.func11, by kernel_rfl, by kernel_rfl⟩
theorem Tryd.fi12 : Tryd.prog.funcs[12]? = some Tryd.f12 ∧ nameOk Tryd.f12 = true ∧ bodyOk Tryd.f12 = true := ⟨Tryd.func12, by kernel_rfl, by kernel_rfl⟩
theorem Tryd.fi13 : Tryd.prog.funcs[13]? = some Tryd.f13 ∧ nameOk Tryd.f13 = true ∧ bodyOk Tryd.f13 = true := ⟨Tryd.func13, by kernel_rfl, by kernel_rfl⟩
theorem Tryd.fi14 : Tryd.prog.funcs[14]? = some Tryd.f14 ∧ nameOk Tryd.f14 = true ∧ bodyOk Tryd.f14 = true := ⟨Tryd.func14, by kernel_rfl, by kernel_rfl⟩
theorem Tryd.fi15 : Tryd.prog.funcs[15]? = some Tryd.f15 ∧ nameOk Tryd.f15 = true ∧ bodyOk Tryd.f15 = true := ⟨Tryd.func15, by kernel_rfl, by kernel_rfl⟩
theorem Tryd.fi16 : Tryd.prog.funcs[16]? = some Tryd.f16 ∧ nameOk Tryd.f16 = true ∧ bodyOk Tryd.f16 = true := ⟨Tryd.func16, by kernel_rfl, by kernel_rfl⟩
theorem Tryd.fi17 : Tryd.prog.funcs[17]? = some Tryd.f17 ∧ nameOk Tryd.f17 = true ∧ bodyOk Tryd.f17 = true := ⟨Tryd.func17, by kernel_rfl, by kernel_rfl⟩
theorem Tryd.fi18 : Tryd.prog.funcs[18]? = some Tryd.f18 ∧ nameOk Tryd.f18 = true ∧ bodyOk Tryd.f18 = true := ⟨Tryd.func18, by kernel_rfl, by kernel_rfl⟩
theorem Tryd.fi19 : Tryd.prog.funcs[19]? = some Tryd.f19 ∧ nameOk Tryd.f19 = true ∧ bodyOk Tryd.f19 = true := ⟨Tryd.func19, by kernel_rfl, by kernel_rfl⟩
theorem Tryd.fi20 : Tryd.prog.funcs[20]? = some Tryd.f20 ∧ nameOk Tryd.f20 = true ∧ bodyOk Tryd.f20 = true := ⟨Tryd.func20, by kernel_rfl, by kernel_rfl⟩
theorem Tryd.fi21 : Tryd.prog.funcs[21]? = some Tryd.f21 ∧ nameOk Tryd.f21 = true ∧ bodyOk Tryd.f21 = true := ⟨Tryd.func21, by kernel_rfl, by kernel_rfl⟩
theorem Tryd.fi22 : Tryd.prog.funcs[22]? = some Tryd.f22 ∧ nameOk Tryd.f22 = true ∧ bodyOk Tryd.f22 = true := ⟨Tryd.func22, by kernel_rfl, by kernel_rfl⟩
theorem Tryd.fi23 : Tryd.prog.funcs[23]? = some Tryd.f23 ∧ nameOk Tryd.f23 = true ∧ bodyOk Tryd.f23 = true := ⟨Tryd.func23, by kernel_rfl, by kernel_rfl⟩
theorem Tryd.fi24 : Tryd.prog.funcs[24]? = some Tryd.f24 ∧ nameOk Tryd.f24 = true ∧ bodyOk Tryd.f24 = true := ⟨Tryd.func24, by kernel_rfl, by kernel_rfl⟩
theorem Tryd.fi25 : Tryd.prog.funcs[25]? = some Tryd.f25 ∧ nameOk Tryd.f25 = true ∧ bodyOk Tryd.f25 = true := ⟨Tryd.func25, by kernel_rfl, by kernel_rfl⟩
theorem Tryd.fi26 : Tryd.prog.funcs[26]? = some Tryd.f26 ∧ nameOk Tryd.f26 = true ∧ bodyOk Tryd.f26 = true := ⟨Tryd.func26, by kernel_rfl, by kernel_rfl⟩
theorem Tryd.fi27 : Tryd.prog.funcs[27]? = some Tryd.f27 ∧ nameOk Tryd.f27 = true ∧ bodyOk Tryd.f27 = true := ⟨Tryd.func27, by kernel_rfl, by kernel_rfl⟩
theorem Tryd.fi28 : Tryd.prog.funcs[28]? = some Tryd.f28 ∧ nameOk Tryd.f28 = true ∧ bodyOk Tryd.f28 = true := ⟨Tryd.func28, by kernel_rfl, by kernel_rfl⟩
theorem Tryd.fi29 : Tryd.prog.funcs[29]? = some Tryd.f29 ∧ nameOk Tryd.f29 = true ∧ bodyOk Tryd.f29 = true := ⟨Tryd.func29, by kernel_rfl, by kernel_rfl⟩
theorem Tryd.fi30 : Tryd.prog.funcs[30]? = some Tryd.f30 ∧ nameOk Tryd.f30 = true ∧ bodyOk Tryd.f30 = true := ⟨Tryd.func30, by kernel_rfl, by kernel_rfl⟩
theorem Tryd.fi31 : Tryd.prog.funcs[31]? = some Tryd.f31 ∧ nameOk Tryd.f31 = true ∧ bodyOk Tryd.f31 = true := ⟨Tryd.func31, by kernel_rfl, by kernel_rfl⟩
theorem Tryd.fi32 : Tryd.prog.funcs[32]? = some Tryd.f32 ∧ nameOk Tryd.f32 = true ∧ bodyOk Tryd.f32 = true := ⟨Tryd.func32, by kernel_rfl, by kernel_rfl⟩
theorem Tryd.fi33 : Tryd.prog.funcs[33]? = some Tryd.f33 ∧ nameOk Tryd.f33 = true ∧ bodyOk Tryd.f33 = true := ⟨Tryd.func33, by kernel_rfl, by kernel_rfl⟩
theorem Tryd.fi34 : Tryd.prog.funcs[34]? = some Tryd.f34 ∧ nameOk Tryd.f34 = true ∧ bodyOk Tryd.f34 = true := ⟨Tryd.func34, by kernel_rfl, by kernel_rfl⟩
theorem Tryd.fi35 : Tryd.prog.funcs[35]? = some Tryd.f35 ∧ nameOk Tryd.f35 = true ∧ bodyOk Tryd.f35 = true := ⟨Tryd.func35, by kernel_rfl, by kernel_rfl⟩
theorem Tryd.fi36 : Tryd.prog.funcs[36]? = some Tryd.f36 ∧ nameOk Tryd.f36 = true ∧ bodyOk Tryd.f36 = true := ⟨Tryd.func36, by kernel_rfl, by kernel_rfl⟩
theorem Tryd.fi37 : Tryd.prog.funcs[37]? = some Tryd.f37 ∧ nameOk Tryd.f37 = true ∧ bodyOk Tryd.f37 = true := ⟨Tryd.func37, by kernel_rfl, by kernel_rfl⟩
theorem Tryd.fi38 : Tryd.prog.funcs[38]? = some Tryd.f38 ∧ nameOk Tryd.f38 = true ∧ bodyOk Tryd.f38 = true := ⟨Tryd.func38, by kernel_rfl, by kernel_rfl⟩
theorem Tryd.fi39 : Tryd.prog.funcs[39]? = some Tryd.f39 ∧ nameOk Tryd.f39 = true ∧ bodyOk Tryd.f39 = true := ⟨Tryd.func39, by kernel_rfl, by kernel_rfl⟩
theorem Tryd.fi40 : Tryd.prog.funcs[40]? = some Tryd.f40 ∧ nameOk Tryd.f40 = true ∧ bodyOk Tryd.f40 = true := ⟨Tryd.func40, by kernel_rfl, by kernel_rfl⟩
theorem Tryd.fi41 : Tryd.prog.funcs[41]? = some Tryd.f41 ∧ nameOk Tryd.f41 = true ∧ bodyOk Tryd.f41 = true := ⟨Tryd.func41, by kernel_rfl, by kernel_rfl⟩
theorem Tryd.fi42 : Tryd.prog.funcs[42]? = some Tryd.f42 ∧ nameOk Tryd.f42 = true ∧ bodyOk Tryd.f42 = true := ⟨Tryd.func42, by kernel_rfl, by kernel_rfl⟩
theorem Tryd.fi43 : Tryd.prog.funcs[43]? = some Tryd.f43 ∧ nameOk Tryd.f43 = true ∧ bodyOk Tryd.f43 = true := ⟨Tryd.func43, by kernel_rfl, by kernel_rfl⟩
theorem Tryd.fi44 : Tryd.prog.funcs[44]? = some Tryd.f44 ∧ nameOk Tryd.f44 = true ∧ bodyOk Tryd.f44 = true := ⟨Tryd.func44, by kernel_rfl, by kernel_rfl⟩
theorem Tryd.fi45 : Tryd.prog.funcs[45]? = some Tryd.f45 ∧ nameOk Tryd.f45 = true ∧ bodyOk Tryd.f45 = true := ⟨Tryd.func45, by kernel_rfl, by kernel_rfl⟩
theorem Tryd.fi46 : Tryd.prog.funcs[46]? = some Tryd.f46 ∧ nameOk Tryd.f46 = true ∧ bodyOk Tryd.f46 = true := ⟨Tryd.func46, by kernel_rfl, by kernel_rfl⟩
theorem Tryd.fi47 : Tryd.prog.funcs[47]? = some Tryd.f47 ∧ nameOk Tryd.f47 = true ∧ bodyOk Tryd.f47 = true := ⟨Tryd.func47, by kernel_rfl, by kernel_rfl⟩
theorem Tryd.fi48 : Tryd.prog.funcs[48]? = some Tryd.f48 ∧ nameOk Tryd.f48 = true ∧ bodyOk Tryd.f48 = true := ⟨Tryd.func48, by kernel_rfl, by kernel_rfl⟩
theorem Tryd.fi49 : Tryd.prog.funcs[49]? = some Tryd.f49 ∧ nameOk Tryd.f49 = true ∧ bodyOk Tryd.f49 = true := ⟨Tryd.func49, by kernel_rfl, by kernel_rfl⟩
theorem Tryd.fi50 : Tryd.prog.funcs[50]? = some Tryd.f50 ∧ nameOk Tryd.f50 = true ∧ bodyOk Tryd.f50 = true := ⟨Tryd.func50, by kernel_rfl, by kernel_rfl⟩
theorem Tryd.fi51 : Tryd.prog.funcs[51]? = some Tryd.f51 ∧ nameOk Tryd.f51 = true ∧ bodyOk Tryd.f51 = true := ⟨Tryd.func51, by kernel_rfl, by kernel_rfl⟩
theorem Tryd.fi52 : Tryd.prog.funcs[52]? = some Tryd.f52 ∧ nameOk Tryd.f52 = true ∧ bodyOk Tryd.f52 = true := ⟨Tryd.func52, by kernel_rfl, by kernel_rfl⟩
theorem Tryd.fi53 : Tryd.prog.funcs[53]? = some Tryd.f53 ∧ nameOk Tryd.f53 = true ∧ bodyOk Tryd.f53 = true := ⟨Tryd.func53, by kernel_rfl, by kernel_rfl⟩
theorem Tryd.fi54 : Tryd.prog.funcs[54]? = some Tryd.f54 ∧ nameOk Tryd.f54 = true ∧ bodyOk Tryd.f54 = true := ⟨Tryd.func54, by kernel_rfl, by kernel_rfl⟩
theorem Tryd.fi55 : Tryd.prog.funcs[55]? = some Tryd.f55 ∧ nameOk Tryd.f55 = true ∧ bodyOk Tryd.f55 = true := ⟨Tryd.func55, by kernel_rfl, by kernel_rfl⟩
theorem Tryd.fi56 : Tryd.prog.funcs[56]? = some Tryd.f56 ∧ nameOk Tryd.f56 = true ∧ bodyOk Tryd.f56 = true := ⟨Tryd.func56, by kernel_rfl, by kernel_rfl⟩
theorem Tryd.fi57 : Tryd.prog.funcs[57]? = some Tryd.f57 ∧ nameOk Tryd.f57 = true ∧ bodyOk Tryd.f57 = true := ⟨Tryd.func57, by kernel_rfl, by kernel_rfl⟩
theorem Tryd.fi58 : Tryd.prog.funcs[58]? = some Tryd.f58 ∧ nameOk Tryd.f58 = true ∧ bodyOk Tryd.f58 = true := ⟨Tryd.func58, by kernel_rfl, by kernel_rfl⟩
theorem Tryd.fi59 : Tryd.prog.funcs[59]? = some Tryd.f59 ∧ nameOk Tryd.f59 = true ∧ bodyOk Tryd.f59 = true := ⟨Tryd.func59, by kernel_rfl, by kernel_rfl⟩
theorem Tryd.fi60 : Tryd.prog.funcs[60]? = some Tryd.f60 ∧ nameOk Tryd.f60 = true ∧ bodyOk Tryd.f60 = true := ⟨Tryd.func60, by kernel_rfl, by kernel_rfl⟩
theorem Tryd.fi61 : Tryd.prog.funcs[61]? = some Tryd.f61 ∧ nameOk Tryd.f61 = true ∧ bodyOk Tryd.f61 = true := ⟨Tryd.func61, by kernel_rfl, by kernel_rfl⟩
theorem Tryd.fi62 : Tryd.prog.funcs[62]? = some Tryd.f62 ∧ nameOk Tryd.f62 = true ∧ bodyOk Tryd.f62 = true := ⟨Tryd.func62, by kernel_rfl, by kernel_rfl⟩
theorem Tryd.fi63 : Tryd.prog.funcs[63]? = some Tryd.f63 ∧ nameOk Tryd.f63 = true ∧ bodyOk Tryd.f63 = true := ⟨Tryd.func63, by kernel_rfl, by kernel_rfl⟩
theorem Tryd.fi64 : Tryd.prog.funcs[64]? = some Tryd.f64 ∧ nameOk Tryd.f64 = true ∧ bodyOk Tryd.f64 = true := ⟨Tryd.func64, by kernel_rfl, by kernel_rfl⟩
theorem Tryd.fi65 : Tryd.prog.funcs[65]? = some Tryd.f65 ∧ nameOk Tryd.f65 = true ∧ bodyOk Tryd.f65 = true := ⟨Tryd.func65, by kernel_rfl, by kernel_rfl⟩
theorem Tryd.fi66 : Tryd.prog.funcs[66]? = some Tryd.f66 ∧ nameOk Tryd.f66 = true ∧ bodyOk Tryd.f66 = true := ⟨Tryd.func66, by kernel_rfl, by kernel_rfl⟩
theorem Tryd.fi67 : Tryd.prog.funcs[67]? = some Tryd.f67 ∧ nameOk Tryd.f67 = true ∧ bodyOk Tryd.f67 = true := ⟨Tryd.func67, by kernel_rfl, by kernel_rfl⟩
theorem Tryd.fi68 : Tryd.prog.funcs[68]? = some Tryd.f68 ∧ nameOk Tryd.f68 = true ∧ bodyOk Tryd.f68 = true := ⟨Tryd.func68, by kernel_rfl, by kernel_rfl⟩
theorem Tryd.fi69 : Tryd.prog.funcs[69]? = some Tryd.f69 ∧ nameOk Tryd.f69 = true ∧ bodyOk Tryd.f69 = true := ⟨Tryd.func69, by kernel_rfl, by kernel_rfl⟩
theorem Tryd.fi70 : Tryd.prog.funcs[70]? = some Tryd.f70 ∧ nameOk Tryd.f70 = true ∧ bodyOk Tryd.f70 = true := ⟨Tryd.func70, by kernel_rfl, by kernel_rfl⟩
theorem Tryd.fi71 : Tryd.prog.funcs[71]? = some Tryd.f71 ∧ nameOk Tryd.f71 = true ∧ bodyOk Tryd.f71 = true := ⟨Tryd.func71, by kernel_rfl, by kernel_rfl⟩
theorem Tryd.fi72 : Tryd.prog.funcs[72]? = some Tryd.f72 ∧ nameOk Tryd.f72 = true ∧ bodyOk Tryd.f72 = true := ⟨Tryd.func72, by kernel_rfl, by kernel_rfl⟩
theorem Tryd.fi73 : Tryd.prog.funcs[73]? = some Tryd.f73 ∧ nameOk Tryd.f73 = true ∧ bodyOk Tryd.f73 = true := ⟨Tryd.func73, by kernel_rfl, by kernel_rfl⟩
theorem Tryd.fi74 : Tryd.prog.funcs[74]? = some Tryd.f74 ∧ nameOk Tryd.f74 = true ∧ bodyOk Tryd.f74 = true := ⟨Tryd.func74, by kernel_rfl, by kernel_rfl⟩
theorem Tryd.fi75 : Tryd.prog.funcs[75]? = some Tryd.f75 ∧ nameOk Tryd.f75 = true ∧ bodyOk Tryd.f75 = true := ⟨Tryd.func75, by kernel_rfl, by kernel_rfl⟩
theorem Tryd.fi76 : Tryd.prog.funcs[76]? = some Tryd.f76 ∧ nameOk Tryd.f76 = true ∧ bodyOk Tryd.f76 = true := ⟨Tryd.func76, by kernel_rfl, by kernel_rfl⟩
theorem Tryd.fi77 : Tryd.prog.funcs[77]? = some Tryd.f77 ∧ nameOk Tryd.f77 = true ∧ bodyOk Tryd.f77 = true := ⟨Tryd.func77, by kernel_rfl, by kernel_rfl⟩
theorem Tryd.fi78 : Tryd.prog.funcs[78]? = some Tryd.f78 ∧ nameOk Tryd.f78 = true ∧ bodyOk Tryd.f78 = true := ⟨Tryd.func78, by kernel_rfl, by kernel_rfl⟩
theorem Tryd.fi79 : Tryd.prog.funcs[79]? = some Tryd.f79 ∧ nameOk Tryd.f79 = true ∧ bodyOk Tryd.f79 = true := ⟨Tryd.func79, by kernel_rfl, by kernel_rfl⟩
theorem Tryd.fi80 : Tryd.prog.funcs[80]? = some Tryd.f80 ∧ nameOk Tryd.f80 = true ∧ bodyOk Tryd.f80 = true := ⟨Tryd.func80, by kernel_rfl, by kernel_rfl⟩
theorem Tryd.fi81 : Tryd.prog.funcs[81]? = some Tryd.f81 ∧ nameOk Tryd.f81 = true ∧ bodyOk Tryd.f81 = true := ⟨Tryd.func81, by kernel_rfl, by kernel_rfl⟩
theorem Tryd.fi82 : Tryd.prog.funcs[82]? = some Tryd.f82 ∧ nameOk Tryd.f82 = true ∧ bodyOk Tryd.f82 = true := ⟨Tryd.func82, by kernel_rfl, by kernel_rfl⟩
theorem Tryd.fi83 : Tryd.prog.funcs[83]? = some Tryd.f83 ∧ nameOk Tryd.f83 = true ∧ bodyOk Tryd.f83 = true := ⟨Tryd.func83, by kernel_rfl, by kernel_rfl⟩
theorem Tryd.fi84 : Tryd.prog.funcs[84]? = some Tryd.f84 ∧ nameOk Tryd.f84 = true ∧ bodyOk Tryd.f84 = true := ⟨Tryd.func84, by kernel_rfl, by kernel_rfl⟩
theorem Tryd.fi85 : Tryd.prog.funcs[85]? = some Tryd.f85 ∧ nameOk Tryd.f85 = true ∧ bodyOk Tryd.f85 = true := ⟨Tryd.func85, by kernel_rfl, by kernel_rfl⟩
theorem Tryd.fi86 : Tryd.prog.funcs[86]? = some Tryd.f86 ∧ nameOk Tryd.f86 = true ∧ bodyOk Tryd.f86 = true := ⟨Tryd.func86, by kernel_rfl, by kernel_rfl⟩
theorem Tryd.fi87 : Tryd.prog.funcs[87]? = some Tryd.f87 ∧ nameOk Tryd.f87 = true ∧ bodyOk Tryd.f87 = true := ⟨Tryd.func87, by kernel_rfl, by kernel_rfl⟩
theorem Tryd.fi93 : Tryd.prog.funcs[93]? = some Tryd.f93 ∧ nameOk Tryd.f93 = true ∧ bodyOk Tryd.f93 = true := ⟨Tryd.func93, by kernel_rfl, by kernel_rfl⟩
theorem Tryd.tyAll : Tryd.tyTab.All (TIok Tryd.prog) :=
  ⟨⟨⟨⟨⟨⟨⟨trivial, Tryd.ti1, trivial⟩, Tryd.ti2, ⟨trivial, Tryd.ti3, trivial⟩⟩, Tryd.ti4, ⟨⟨trivial, Tryd.ti5, trivial⟩, Tryd.ti6, trivial⟩⟩, Tryd.ti7, ⟨⟨⟨trivial, Tryd.ti8, trivial⟩, Tryd.ti9, trivial⟩, Tryd.ti10, ⟨⟨trivial, Tryd.ti11, trivial⟩, Tryd.ti12, trivial⟩⟩⟩, Tryd.ti13, ⟨⟨⟨⟨trivial, Tryd.ti14, trivial⟩, Tryd.ti15, ⟨trivial, Tryd.ti16, trivial⟩⟩, Tryd.ti17, ⟨⟨trivial, Tryd.ti18, trivial⟩, Tryd.ti19, trivial⟩⟩, Tryd.ti20, ⟨⟨⟨trivial, Tryd.ti21, trivial⟩, Tryd.ti22, trivial⟩, Tryd.ti23, ⟨⟨trivial, Tryd.ti24, trivial⟩, Tryd.ti25, trivial⟩⟩⟩⟩, Tryd.ti27, ⟨⟨⟨⟨⟨trivial, Tryd.ti28, trivial⟩, Tryd.ti29, ⟨trivial, Tryd.ti30, trivial⟩⟩, Tryd.ti32, ⟨⟨trivial, Tryd.ti33, trivial⟩, Tryd.ti34, trivial⟩⟩, Tryd.ti36, ⟨⟨⟨trivial, Tryd.ti37, trivial⟩, Tryd.ti38, trivial⟩, Tryd.ti39, ⟨⟨trivial, Tryd.ti40, trivial⟩, Tryd.ti41, trivial⟩⟩⟩, Tryd.ti42, ⟨⟨⟨⟨trivial, Tryd.ti43, trivial⟩, Tryd.ti44, ⟨trivial, Tryd.ti45, trivial⟩⟩, Tryd.ti46, ⟨⟨trivial, Tryd.ti47, trivial⟩, Tryd.ti48, trivial⟩⟩, Tryd.ti49, ⟨⟨⟨trivial, Tryd.ti50, trivial⟩, Tryd.ti52, trivial⟩, Tryd.ti53, ⟨⟨trivial, Tryd.ti54, trivial⟩, Tryd.ti55, trivial⟩⟩⟩⟩⟩, Tryd.ti56, ⟨⟨⟨⟨⟨⟨trivial, Tryd.ti58, trivial⟩, Tryd.ti59, ⟨trivial, Tryd.ti60, trivial⟩⟩, Tryd.ti61, ⟨⟨trivial, Tryd.ti62, trivial⟩, Tryd.ti63, trivial⟩⟩, Tryd.ti64, ⟨⟨⟨trivial, Tryd.ti66, trivial⟩, Tryd.ti67, trivial⟩, Tryd.ti68, ⟨⟨trivial, Tryd.ti69, trivial⟩, Tryd.ti70, trivial⟩⟩⟩, Tryd.ti71, ⟨⟨⟨⟨trivial, Tryd.ti72, trivial⟩, Tryd.ti73, ⟨trivial, Tryd.ti74, trivial⟩⟩, Tryd.ti76, ⟨⟨trivial, Tryd.ti77, trivial⟩, Tryd.ti79, trivial⟩⟩, Tryd.ti80, ⟨⟨⟨trivial, Tryd.ti81, trivial⟩, Tryd.ti82, trivial⟩, Tryd.ti83, ⟨⟨trivial, Tryd.ti84, trivial⟩, Tryd.ti85, trivial⟩⟩⟩⟩, Tryd.ti86, ⟨⟨⟨⟨⟨trivial, Tryd.ti87, trivial⟩, Tryd.ti88, ⟨trivial, Tryd.ti90, trivial⟩⟩, Tryd.ti91, ⟨⟨trivial, Tryd.ti92, trivial⟩, Tryd.ti93, trivial⟩⟩, Tryd.ti94, ⟨⟨⟨trivial, Tryd.ti95, trivial⟩, Tryd.ti96, trivial⟩, Tryd.ti97, ⟨⟨trivial, Tryd.ti98, trivial⟩, Tryd.ti99, trivial⟩⟩⟩, Tryd.ti100, ⟨⟨⟨⟨trivial, Tryd.ti101, trivial⟩, Tryd.ti102, trivial⟩, Tryd.ti103, ⟨⟨trivial, Tryd.ti104, trivial⟩, Tryd.ti105, trivial⟩⟩, Tryd.ti106, ⟨⟨⟨trivial, Tryd.ti107, trivial⟩, Tryd.ti108, trivial⟩, Tryd.ti109, ⟨⟨trivial, Tryd.ti110, trivial⟩, Tryd.ti111, trivial⟩⟩⟩⟩⟩⟩
theorem Tryd.fnAll : Tryd.fnTab.All fun f fn => Tryd.prog.funcs[f]? = some fn ∧ nameOk fn = true ∧ bodyOk fn = true :=
  ⟨⟨⟨⟨⟨⟨⟨trivial, Tryd.fi3, trivial⟩, Tryd.fi4, trivial⟩, Tryd.fi5, ⟨⟨trivial, Tryd.fi6, trivial⟩, Tryd.fi7, trivial⟩⟩, Tryd.fi8, ⟨⟨⟨trivial, Tryd.fi9, trivial⟩, Tryd.fi10, trivial⟩, Tryd.fi11, ⟨trivial, Tryd.fi12, trivial⟩⟩⟩, Tryd.fi13, ⟨⟨⟨⟨trivial, Tryd.fi14, trivial⟩, Tryd.fi15, trivial⟩, Tryd.fi16, ⟨⟨trivial, Tryd.fi17, trivial⟩, Tryd.fi18, trivial⟩⟩, Tryd.fi19, ⟨⟨⟨trivial, Tryd.fi20, trivial⟩, Tryd.fi21, trivial⟩, Tryd.fi22, ⟨trivial, Tryd.fi23, trivial⟩⟩⟩⟩, Tryd.fi24, ⟨⟨⟨⟨⟨trivial, Tryd.fi25, trivial⟩, Tryd.fi26, trivial⟩, Tryd.fi27, ⟨⟨trivial, Tryd.fi28, trivial⟩, Tryd.fi29, trivial⟩⟩, Tryd.fi30, ⟨⟨⟨trivial, Tryd.fi31, trivial⟩, Tryd.fi32, trivial⟩, Tryd.fi33, ⟨trivial, Tryd.fi34, trivial⟩⟩⟩, Tryd.fi35, ⟨⟨⟨⟨trivial, Tryd.fi36, trivial⟩, Tryd.fi37, trivial⟩, Tryd.fi38, ⟨⟨trivial, Tryd.fi39, trivial⟩, Tryd.fi40, trivial⟩⟩, Tryd.fi41, ⟨⟨⟨trivial, Tryd.fi42, trivial⟩, Tryd.fi43, trivial⟩, Tryd.fi44, ⟨trivial, Tryd.fi45, trivial⟩⟩⟩⟩⟩, Tryd.fi46, ⟨⟨⟨⟨⟨⟨trivial, Tryd.fi47, trivial⟩, Tryd.fi48, trivial⟩, Tryd.fi49, ⟨⟨trivial, Tryd.fi50, trivial⟩, Tryd.fi51, trivial⟩⟩, Tryd.fi52, ⟨⟨⟨trivial, Tryd.fi53, trivial⟩, Tryd.fi54, trivial⟩, Tryd.fi55, ⟨trivial, Tryd.fi56, trivial⟩⟩⟩, Tryd.fi57, ⟨⟨⟨⟨trivial, Tryd.fi58, trivial⟩, Tryd.fi59, trivial⟩, Tryd.fi60, ⟨⟨trivial, Tryd.fi61, trivial⟩, Tryd.fi62, trivial⟩⟩, Tryd.fi63, ⟨⟨⟨trivial, Tryd.fi64, trivial⟩, Tryd.fi65, trivial⟩, Tryd.fi66, ⟨trivial, Tryd.fi67, trivial⟩⟩⟩⟩, Tryd.fi68, ⟨⟨⟨⟨⟨trivial, Tryd.fi69, trivial⟩, Tryd.fi70, trivial⟩, Tryd.fi71, ⟨⟨trivial, Tryd.fi72, trivial⟩, Tryd.fi73, trivial⟩⟩, Tryd.fi74, ⟨⟨⟨trivial, Tryd.fi75, trivial⟩, Tryd.fi76, trivial⟩, Tryd.fi77, ⟨trivial, Tryd.fi78, trivial⟩⟩⟩, Tryd.fi79, ⟨⟨⟨⟨trivial, Tryd.fi80, trivial⟩, Tryd.fi81, trivial⟩, Tryd.fi82, ⟨trivial, Tryd.fi83, trivial⟩⟩, Tryd.fi84, ⟨⟨⟨trivial, Tryd.fi85, trivial⟩, Tryd.fi86, trivial⟩, Tryd.fi87, ⟨trivial, Tryd.fi93, trivial⟩⟩⟩⟩⟩⟩
theorem Tryd.tabOk : TabOk Tryd.prog Tryd.tab ∧ CodesOk Tryd.tab := tabOk_of Tryd.tyAll Tryd.fnAll (by kernel_rfl)
end Go.Proofs
