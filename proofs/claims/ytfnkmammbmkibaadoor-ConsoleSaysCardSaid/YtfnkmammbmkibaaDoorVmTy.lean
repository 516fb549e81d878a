/-
  The types of this seat. Printed by wip/gen/types.py.
-/
import Derived.Test.YtfnkmammbmkibaaDoorVmN
import Derived.Test.YtfnkmammbmkibaaDoorRows
namespace Go.Proofs.YtfnkmammbmkibaaDoor
open Go.RowKit

theorem mixed : Tryd.prog.follows .mixedOrders = true := by kernel_rfl
def e2 : TE := ⟨.int .i64, 1, 8, .int .i64 0, .no⟩
theorem e2_ok : TE.ok Tryd.prog 2 e2 := ⟨by kernel_rfl, by kernel_rfl, rfl, by kernel_rfl⟩
def e3 : TE := ⟨.int .i64, 1, 8, .int .i64 0, .no⟩
theorem e3_ok : TE.ok Tryd.prog 3 e3 := ⟨by kernel_rfl, by kernel_rfl, rfl, by kernel_rfl⟩
def e4 : TE := ⟨.one, 1, 1, .bool false, .bool⟩
theorem e4_ok : TE.ok Tryd.prog 4 e4 := ⟨by kernel_rfl, by kernel_rfl, rfl, by kernel_rfl⟩
def e5 : TE := ⟨.int .u8, 1, 1, .int .u8 0, .no⟩
theorem e5_ok : TE.ok Tryd.prog 5 e5 := ⟨by kernel_rfl, by kernel_rfl, rfl, by kernel_rfl⟩
def e9 : TE := ⟨.str, 1, 16, .string ByteArray.empty, .no⟩
theorem e9_ok : TE.ok Tryd.prog 9 e9 := ⟨by kernel_rfl, by kernel_rfl, rfl, by kernel_rfl⟩
def e12 : TE := ⟨.int .u64, 1, 8, .int .u64 0, .no⟩
theorem e12_ok : TE.ok Tryd.prog 12 e12 := ⟨by kernel_rfl, by kernel_rfl, rfl, by kernel_rfl⟩
def e17 : TE := ⟨.one, 1, 8, .pointer none, .ptr⟩
theorem e17_ok : TE.ok Tryd.prog 17 e17 := ⟨by kernel_rfl, by kernel_rfl, rfl, by kernel_rfl⟩
def e21 : TE := ⟨.int .i32, 1, 4, .int .i32 0, .no⟩
theorem e21_ok : TE.ok Tryd.prog 21 e21 := ⟨by kernel_rfl, by kernel_rfl, rfl, by kernel_rfl⟩
def e22 : TE := ⟨.struct [(0, 9), (1, 9), (2, 3)], 3, 40, .agg #[.string ByteArray.empty, .string ByteArray.empty, .int .i64 0], .st [2, 2, 0]⟩
theorem e22_ok : TE.ok Tryd.prog 22 e22 := ⟨by kernel_rfl, by kernel_rfl, rfl, by kernel_rfl⟩
def e23 : TE := ⟨.struct [(0, 9), (1, 9), (2, 3)], 3, 40, .agg #[.string ByteArray.empty, .string ByteArray.empty, .int .i64 0], .st [2, 2, 0]⟩
theorem e23_ok : TE.ok Tryd.prog 23 e23 := ⟨by kernel_rfl, by kernel_rfl, rfl, by kernel_rfl⟩
def e24 : TE := ⟨.int .i64, 1, 8, .int .i64 0, .no⟩
theorem e24_ok : TE.ok Tryd.prog 24 e24 := ⟨by kernel_rfl, by kernel_rfl, rfl, by kernel_rfl⟩
def e31 : TE := ⟨.struct [(0, 9), (1, 4), (2, 4), (3, 3), (4, 3)], 5, 40, .agg #[.string ByteArray.empty, .bool false, .bool false, .int .i64 0, .int .i64 0], .st [2, 1, 1, 0, 0]⟩
theorem e31_ok : TE.ok Tryd.prog 31 e31 := ⟨by kernel_rfl, by kernel_rfl, rfl, by kernel_rfl⟩
def e32 : TE := ⟨.struct [(0, 9), (1, 4), (2, 4), (3, 3), (4, 3)], 5, 40, .agg #[.string ByteArray.empty, .bool false, .bool false, .int .i64 0, .int .i64 0], .st [2, 1, 1, 0, 0]⟩
theorem e32_ok : TE.ok Tryd.prog 32 e32 := ⟨by kernel_rfl, by kernel_rfl, rfl, by kernel_rfl⟩
def e36 : TE := ⟨.array 8 32, 40, 320, .agg #[.string ByteArray.empty, .bool false, .bool false, .int .i64 0, .int .i64 0, .string ByteArray.empty, .bool false, .bool false, .int .i64 0, .int .i64 0, .string ByteArray.empty, .bool false, .bool false, .int .i64 0, .int .i64 0, .string ByteArray.empty, .bool false, .bool false, .int .i64 0, .int .i64 0, .string ByteArray.empty, .bool false, .bool false, .int .i64 0, .int .i64 0, .string ByteArray.empty, .bool false, .bool false, .int .i64 0, .int .i64 0, .string ByteArray.empty, .bool false, .bool false, .int .i64 0, .int .i64 0, .string ByteArray.empty, .bool false, .bool false, .int .i64 0, .int .i64 0], .no⟩
theorem e36_ok : TE.ok Tryd.prog 36 e36 := ⟨by kernel_rfl, by kernel_rfl, rfl, by kernel_rfl⟩
def e38 : TE := ⟨.slice 5, 1, 24, .slice none 0 0, .no⟩
theorem e38_ok : TE.ok Tryd.prog 38 e38 := ⟨by kernel_rfl, by kernel_rfl, rfl, by kernel_rfl⟩
def e40 : TE := ⟨.array 24 5, 24, 24, .agg #[.int .u8 0, .int .u8 0, .int .u8 0, .int .u8 0, .int .u8 0, .int .u8 0, .int .u8 0, .int .u8 0, .int .u8 0, .int .u8 0, .int .u8 0, .int .u8 0, .int .u8 0, .int .u8 0, .int .u8 0, .int .u8 0, .int .u8 0, .int .u8 0, .int .u8 0, .int .u8 0, .int .u8 0, .int .u8 0, .int .u8 0, .int .u8 0], .no⟩
theorem e40_ok : TE.ok Tryd.prog 40 e40 := ⟨by kernel_rfl, by kernel_rfl, rfl, by kernel_rfl⟩
def e41 : TE := ⟨.int .u64, 1, 8, .int .u64 0, .no⟩
theorem e41_ok : TE.ok Tryd.prog 41 e41 := ⟨by kernel_rfl, by kernel_rfl, rfl, by kernel_rfl⟩
def e48 : TE := ⟨.array 20 41, 20, 160, .agg #[.int .u64 0, .int .u64 0, .int .u64 0, .int .u64 0, .int .u64 0, .int .u64 0, .int .u64 0, .int .u64 0, .int .u64 0, .int .u64 0, .int .u64 0, .int .u64 0, .int .u64 0, .int .u64 0, .int .u64 0, .int .u64 0, .int .u64 0, .int .u64 0, .int .u64 0, .int .u64 0], .no⟩
theorem e48_ok : TE.ok Tryd.prog 48 e48 := ⟨by kernel_rfl, by kernel_rfl, rfl, by kernel_rfl⟩
def e49 : TE := ⟨.int .u32, 1, 4, .int .u32 0, .no⟩
theorem e49_ok : TE.ok Tryd.prog 49 e49 := ⟨by kernel_rfl, by kernel_rfl, rfl, by kernel_rfl⟩
def e50 : TE := ⟨.array 65 5, 65, 65, .agg #[.int .u8 0, .int .u8 0, .int .u8 0, .int .u8 0, .int .u8 0, .int .u8 0, .int .u8 0, .int .u8 0, .int .u8 0, .int .u8 0, .int .u8 0, .int .u8 0, .int .u8 0, .int .u8 0, .int .u8 0, .int .u8 0, .int .u8 0, .int .u8 0, .int .u8 0, .int .u8 0, .int .u8 0, .int .u8 0, .int .u8 0, .int .u8 0, .int .u8 0, .int .u8 0, .int .u8 0, .int .u8 0, .int .u8 0, .int .u8 0, .int .u8 0, .int .u8 0, .int .u8 0, .int .u8 0, .int .u8 0, .int .u8 0, .int .u8 0, .int .u8 0, .int .u8 0, .int .u8 0, .int .u8 0, .int .u8 0, .int .u8 0, .int .u8 0, .int .u8 0, .int .u8 0, .int .u8 0, .int .u8 0, .int .u8 0, .int .u8 0, .int .u8 0, .int .u8 0, .int .u8 0, .int .u8 0, .int .u8 0, .int .u8 0, .int .u8 0, .int .u8 0, .int .u8 0, .int .u8 0, .int .u8 0, .int .u8 0, .int .u8 0, .int .u8 0, .int .u8 0], .no⟩
theorem e50_ok : TE.ok Tryd.prog 50 e50 := ⟨by kernel_rfl, by kernel_rfl, rfl, by kernel_rfl⟩
def e52 : TE := ⟨.int .u64, 1, 8, .int .u64 0, .no⟩
theorem e52_ok : TE.ok Tryd.prog 52 e52 := ⟨by kernel_rfl, by kernel_rfl, rfl, by kernel_rfl⟩
def e55 : TE := ⟨.array 32 5, 32, 32, .agg #[.int .u8 0, .int .u8 0, .int .u8 0, .int .u8 0, .int .u8 0, .int .u8 0, .int .u8 0, .int .u8 0, .int .u8 0, .int .u8 0, .int .u8 0, .int .u8 0, .int .u8 0, .int .u8 0, .int .u8 0, .int .u8 0, .int .u8 0, .int .u8 0, .int .u8 0, .int .u8 0, .int .u8 0, .int .u8 0, .int .u8 0, .int .u8 0, .int .u8 0, .int .u8 0, .int .u8 0, .int .u8 0, .int .u8 0, .int .u8 0, .int .u8 0, .int .u8 0], .no⟩
theorem e55_ok : TE.ok Tryd.prog 55 e55 := ⟨by kernel_rfl, by kernel_rfl, rfl, by kernel_rfl⟩
def e56 : TE := ⟨.array 64 5, 64, 64, .agg #[.int .u8 0, .int .u8 0, .int .u8 0, .int .u8 0, .int .u8 0, .int .u8 0, .int .u8 0, .int .u8 0, .int .u8 0, .int .u8 0, .int .u8 0, .int .u8 0, .int .u8 0, .int .u8 0, .int .u8 0, .int .u8 0, .int .u8 0, .int .u8 0, .int .u8 0, .int .u8 0, .int .u8 0, .int .u8 0, .int .u8 0, .int .u8 0, .int .u8 0, .int .u8 0, .int .u8 0, .int .u8 0, .int .u8 0, .int .u8 0, .int .u8 0, .int .u8 0, .int .u8 0, .int .u8 0, .int .u8 0, .int .u8 0, .int .u8 0, .int .u8 0, .int .u8 0, .int .u8 0, .int .u8 0, .int .u8 0, .int .u8 0, .int .u8 0, .int .u8 0, .int .u8 0, .int .u8 0, .int .u8 0, .int .u8 0, .int .u8 0, .int .u8 0, .int .u8 0, .int .u8 0, .int .u8 0, .int .u8 0, .int .u8 0, .int .u8 0, .int .u8 0, .int .u8 0, .int .u8 0, .int .u8 0, .int .u8 0, .int .u8 0, .int .u8 0], .no⟩
theorem e56_ok : TE.ok Tryd.prog 56 e56 := ⟨by kernel_rfl, by kernel_rfl, rfl, by kernel_rfl⟩
def e58 : TE := ⟨.struct [(0, 17), (1, 17), (2, 17), (3, 9)], 4, 40, .agg #[.pointer none, .pointer none, .pointer none, .string ByteArray.empty], .no⟩
theorem e58_ok : TE.ok Tryd.prog 58 e58 := ⟨by kernel_rfl, by kernel_rfl, rfl, by kernel_rfl⟩
def e67 : TE := ⟨.one, 1, 8, .pointer none, .ptr⟩
theorem e67_ok : TE.ok Tryd.prog 67 e67 := ⟨by kernel_rfl, by kernel_rfl, rfl, by kernel_rfl⟩
def tab : Tab := [(2, e2), (3, e3), (4, e4), (5, e5), (9, e9), (12, e12), (17, e17), (21, e21), (22, e22), (23, e23), (24, e24), (31, e31), (32, e32), (36, e36), (38, e38), (40, e40), (41, e41), (48, e48), (49, e49), (50, e50), (52, e52), (55, e55), (56, e56), (58, e58), (67, e67)]
theorem tab_ok : TabOk Tryd.prog tab := TabOk.cons e2_ok (TabOk.cons e3_ok (TabOk.cons e4_ok (TabOk.cons e5_ok (TabOk.cons e9_ok (TabOk.cons e12_ok (TabOk.cons e17_ok (TabOk.cons e21_ok (TabOk.cons e22_ok (TabOk.cons e23_ok (TabOk.cons e24_ok (TabOk.cons e31_ok (TabOk.cons e32_ok (TabOk.cons e36_ok (TabOk.cons e38_ok (TabOk.cons e40_ok (TabOk.cons e41_ok (TabOk.cons e48_ok (TabOk.cons e49_ok (TabOk.cons e50_ok (TabOk.cons e52_ok (TabOk.cons e55_ok (TabOk.cons e56_ok (TabOk.cons e58_ok (TabOk.cons e67_ok (TabOk.nil _)))))))))))))))))))))))))
def lex : Ord := fun _ => none
end Go.Proofs.YtfnkmammbmkibaaDoor
