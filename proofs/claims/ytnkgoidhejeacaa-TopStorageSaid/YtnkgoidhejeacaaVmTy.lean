/-
  The types of this seat. Printed by wip/gen/types.py.
-/
import Derived.Test.YtnkgoidhejeacaaVmN
import Derived.Test.YtnkgoidhejeacaaRows
namespace Go.Proofs.Ytnkgoidhejeacaa
open Go.RowKit

theorem mixed : Try.prog.follows .mixedOrders = true := by kernel_rfl
def e2 : TE := ⟨.int .i64, 1, 8, .int .i64 0, .no⟩
theorem e2_ok : TE.ok Try.prog 2 e2 := ⟨by kernel_rfl, by kernel_rfl, rfl, by kernel_rfl⟩
def e3 : TE := ⟨.int .i64, 1, 8, .int .i64 0, .no⟩
theorem e3_ok : TE.ok Try.prog 3 e3 := ⟨by kernel_rfl, by kernel_rfl, rfl, by kernel_rfl⟩
def e4 : TE := ⟨.one, 1, 1, .bool false, .bool⟩
theorem e4_ok : TE.ok Try.prog 4 e4 := ⟨by kernel_rfl, by kernel_rfl, rfl, by kernel_rfl⟩
def e5 : TE := ⟨.int .u8, 1, 1, .int .u8 0, .no⟩
theorem e5_ok : TE.ok Try.prog 5 e5 := ⟨by kernel_rfl, by kernel_rfl, rfl, by kernel_rfl⟩
def e9 : TE := ⟨.str, 1, 16, .string ByteArray.empty, .no⟩
theorem e9_ok : TE.ok Try.prog 9 e9 := ⟨by kernel_rfl, by kernel_rfl, rfl, by kernel_rfl⟩
def e12 : TE := ⟨.int .u64, 1, 8, .int .u64 0, .no⟩
theorem e12_ok : TE.ok Try.prog 12 e12 := ⟨by kernel_rfl, by kernel_rfl, rfl, by kernel_rfl⟩
def e17 : TE := ⟨.one, 1, 8, .pointer none, .ptr⟩
theorem e17_ok : TE.ok Try.prog 17 e17 := ⟨by kernel_rfl, by kernel_rfl, rfl, by kernel_rfl⟩
def e21 : TE := ⟨.int .i32, 1, 4, .int .i32 0, .no⟩
theorem e21_ok : TE.ok Try.prog 21 e21 := ⟨by kernel_rfl, by kernel_rfl, rfl, by kernel_rfl⟩
def e22 : TE := ⟨.struct [(0, 3), (1, 3), (2, 3), (3, 3), (4, 3)], 5, 40, .agg #[.int .i64 0, .int .i64 0, .int .i64 0, .int .i64 0, .int .i64 0], .st [0, 0, 0, 0, 0]⟩
theorem e22_ok : TE.ok Try.prog 22 e22 := ⟨by kernel_rfl, by kernel_rfl, rfl, by kernel_rfl⟩
def e23 : TE := ⟨.struct [(0, 3), (1, 3), (2, 3), (3, 3), (4, 3)], 5, 40, .agg #[.int .i64 0, .int .i64 0, .int .i64 0, .int .i64 0, .int .i64 0], .st [0, 0, 0, 0, 0]⟩
theorem e23_ok : TE.ok Try.prog 23 e23 := ⟨by kernel_rfl, by kernel_rfl, rfl, by kernel_rfl⟩
def e24 : TE := ⟨.slice 3, 1, 24, .slice none 0 0, .no⟩
theorem e24_ok : TE.ok Try.prog 24 e24 := ⟨by kernel_rfl, by kernel_rfl, rfl, by kernel_rfl⟩
def e25 : TE := ⟨.int .i64, 1, 8, .int .i64 0, .no⟩
theorem e25_ok : TE.ok Try.prog 25 e25 := ⟨by kernel_rfl, by kernel_rfl, rfl, by kernel_rfl⟩
def e32 : TE := ⟨.slice 37, 1, 24, .slice none 0 0, .no⟩
theorem e32_ok : TE.ok Try.prog 32 e32 := ⟨by kernel_rfl, by kernel_rfl, rfl, by kernel_rfl⟩
def e35 : TE := ⟨.slice 45, 1, 24, .slice none 0 0, .no⟩
theorem e35_ok : TE.ok Try.prog 35 e35 := ⟨by kernel_rfl, by kernel_rfl, rfl, by kernel_rfl⟩
def e36 : TE := ⟨.struct [(0, 3), (1, 3), (2, 35)], 3, 40, .agg #[.int .i64 0, .int .i64 0, .slice none 0 0], .no⟩
theorem e36_ok : TE.ok Try.prog 36 e36 := ⟨by kernel_rfl, by kernel_rfl, rfl, by kernel_rfl⟩
def e37 : TE := ⟨.struct [(0, 3), (1, 3), (2, 35)], 3, 40, .agg #[.int .i64 0, .int .i64 0, .slice none 0 0], .no⟩
theorem e37_ok : TE.ok Try.prog 37 e37 := ⟨by kernel_rfl, by kernel_rfl, rfl, by kernel_rfl⟩
def e44 : TE := ⟨.struct [(0, 3), (1, 3)], 2, 16, .agg #[.int .i64 0, .int .i64 0], .st [0, 0]⟩
theorem e44_ok : TE.ok Try.prog 44 e44 := ⟨by kernel_rfl, by kernel_rfl, rfl, by kernel_rfl⟩
def e45 : TE := ⟨.struct [(0, 3), (1, 3)], 2, 16, .agg #[.int .i64 0, .int .i64 0], .st [0, 0]⟩
theorem e45_ok : TE.ok Try.prog 45 e45 := ⟨by kernel_rfl, by kernel_rfl, rfl, by kernel_rfl⟩
def e62 : TE := ⟨.slice 35, 1, 24, .slice none 0 0, .no⟩
theorem e62_ok : TE.ok Try.prog 62 e62 := ⟨by kernel_rfl, by kernel_rfl, rfl, by kernel_rfl⟩
def e66 : TE := ⟨.int .u64, 1, 8, .int .u64 0, .no⟩
theorem e66_ok : TE.ok Try.prog 66 e66 := ⟨by kernel_rfl, by kernel_rfl, rfl, by kernel_rfl⟩
def e68 : TE := ⟨.int .i64, 1, 8, .int .i64 0, .no⟩
theorem e68_ok : TE.ok Try.prog 68 e68 := ⟨by kernel_rfl, by kernel_rfl, rfl, by kernel_rfl⟩
def e76 : TE := ⟨.int .u32, 1, 4, .int .u32 0, .no⟩
theorem e76_ok : TE.ok Try.prog 76 e76 := ⟨by kernel_rfl, by kernel_rfl, rfl, by kernel_rfl⟩
def e78 : TE := ⟨.int .u64, 1, 8, .int .u64 0, .no⟩
theorem e78_ok : TE.ok Try.prog 78 e78 := ⟨by kernel_rfl, by kernel_rfl, rfl, by kernel_rfl⟩
def e79 : TE := ⟨.int .u64, 1, 8, .int .u64 0, .no⟩
theorem e79_ok : TE.ok Try.prog 79 e79 := ⟨by kernel_rfl, by kernel_rfl, rfl, by kernel_rfl⟩
def e83 : TE := ⟨.one, 1, 8, .pointer none, .ptr⟩
theorem e83_ok : TE.ok Try.prog 83 e83 := ⟨by kernel_rfl, by kernel_rfl, rfl, by kernel_rfl⟩
def e85 : TE := ⟨.one, 1, 8, .pointer none, .ptr⟩
theorem e85_ok : TE.ok Try.prog 85 e85 := ⟨by kernel_rfl, by kernel_rfl, rfl, by kernel_rfl⟩
def e89 : TE := ⟨.struct [(0, 17), (1, 17), (2, 17), (3, 9)], 4, 40, .agg #[.pointer none, .pointer none, .pointer none, .string ByteArray.empty], .no⟩
theorem e89_ok : TE.ok Try.prog 89 e89 := ⟨by kernel_rfl, by kernel_rfl, rfl, by kernel_rfl⟩
def e98 : TE := ⟨.one, 1, 8, .pointer none, .ptr⟩
theorem e98_ok : TE.ok Try.prog 98 e98 := ⟨by kernel_rfl, by kernel_rfl, rfl, by kernel_rfl⟩
def tab : Tab := [(2, e2), (3, e3), (4, e4), (5, e5), (9, e9), (12, e12), (17, e17), (21, e21), (22, e22), (23, e23), (24, e24), (25, e25), (32, e32), (35, e35), (36, e36), (37, e37), (44, e44), (45, e45), (62, e62), (66, e66), (68, e68), (76, e76), (78, e78), (79, e79), (83, e83), (85, e85), (89, e89), (98, e98)]
theorem tab_ok : TabOk Try.prog tab := TabOk.cons e2_ok (TabOk.cons e3_ok (TabOk.cons e4_ok (TabOk.cons e5_ok (TabOk.cons e9_ok (TabOk.cons e12_ok (TabOk.cons e17_ok (TabOk.cons e21_ok (TabOk.cons e22_ok (TabOk.cons e23_ok (TabOk.cons e24_ok (TabOk.cons e25_ok (TabOk.cons e32_ok (TabOk.cons e35_ok (TabOk.cons e36_ok (TabOk.cons e37_ok (TabOk.cons e44_ok (TabOk.cons e45_ok (TabOk.cons e62_ok (TabOk.cons e66_ok (TabOk.cons e68_ok (TabOk.cons e76_ok (TabOk.cons e78_ok (TabOk.cons e79_ok (TabOk.cons e83_ok (TabOk.cons e85_ok (TabOk.cons e89_ok (TabOk.cons e98_ok (TabOk.nil _))))))))))))))))))))))))))))
def lex : Ord := fun _ => none
end Go.Proofs.Ytnkgoidhejeacaa
