/-
  The types of this seat. Printed by wip/gen/types.py.
-/
import Derived.Test.YtinamdapdlnlnaaVmN
import Derived.Test.YtinamdapdlnlnaaRows
namespace Go.Proofs.Ytinamdapdlnlnaa
open Go.RowKit

theorem mixed : Try.prog.follows .mixedOrders = true := by kernel_rfl
def e2 : TE := ⟨.int .i64, 1, 8, .int .i64 0, .no⟩
theorem e2_ok : TE.ok Try.prog 2 e2 := ⟨by kernel_rfl, by kernel_rfl, rfl, by kernel_rfl⟩
def e3 : TE := ⟨.int .i64, 1, 8, .int .i64 0, .no⟩
theorem e3_ok : TE.ok Try.prog 3 e3 := ⟨by kernel_rfl, by kernel_rfl, rfl, by kernel_rfl⟩
def e4 : TE := ⟨.one, 1, 1, .bool false, .bool⟩
theorem e4_ok : TE.ok Try.prog 4 e4 := ⟨by kernel_rfl, by kernel_rfl, rfl, by kernel_rfl⟩
def e5 : TE := ⟨.int .u8, 1, 1, .int .u8 0, .no⟩
theorem e5_ok : TE.ok Try.prog 5 e5 := ⟨by kernel_rfl, by kernel_rfl, rfl, by kernel_rfl⟩
def e9 : TE := ⟨.str, 1, 16, .string ByteArray.empty, .no⟩
theorem e9_ok : TE.ok Try.prog 9 e9 := ⟨by kernel_rfl, by kernel_rfl, rfl, by kernel_rfl⟩
def e12 : TE := ⟨.int .u64, 1, 8, .int .u64 0, .no⟩
theorem e12_ok : TE.ok Try.prog 12 e12 := ⟨by kernel_rfl, by kernel_rfl, rfl, by kernel_rfl⟩
def e17 : TE := ⟨.one, 1, 8, .pointer none, .ptr⟩
theorem e17_ok : TE.ok Try.prog 17 e17 := ⟨by kernel_rfl, by kernel_rfl, rfl, by kernel_rfl⟩
def e21 : TE := ⟨.int .i32, 1, 4, .int .i32 0, .no⟩
theorem e21_ok : TE.ok Try.prog 21 e21 := ⟨by kernel_rfl, by kernel_rfl, rfl, by kernel_rfl⟩
def e22 : TE := ⟨.slice 31, 1, 24, .slice none 0 0, .no⟩
theorem e22_ok : TE.ok Try.prog 22 e22 := ⟨by kernel_rfl, by kernel_rfl, rfl, by kernel_rfl⟩
def e23 : TE := ⟨.slice 3, 1, 24, .slice none 0 0, .no⟩
theorem e23_ok : TE.ok Try.prog 23 e23 := ⟨by kernel_rfl, by kernel_rfl, rfl, by kernel_rfl⟩
def e24 : TE := ⟨.struct [(0, 23), (1, 3)], 2, 32, .agg #[.slice none 0 0, .int .i64 0], .no⟩
theorem e24_ok : TE.ok Try.prog 24 e24 := ⟨by kernel_rfl, by kernel_rfl, rfl, by kernel_rfl⟩
def e25 : TE := ⟨.struct [(0, 23), (1, 3)], 2, 32, .agg #[.slice none 0 0, .int .i64 0], .no⟩
theorem e25_ok : TE.ok Try.prog 25 e25 := ⟨by kernel_rfl, by kernel_rfl, rfl, by kernel_rfl⟩
def e26 : TE := ⟨.int .i64, 1, 8, .int .i64 0, .no⟩
theorem e26_ok : TE.ok Try.prog 26 e26 := ⟨by kernel_rfl, by kernel_rfl, rfl, by kernel_rfl⟩
def e29 : TE := ⟨.slice 55, 1, 24, .slice none 0 0, .no⟩
theorem e29_ok : TE.ok Try.prog 29 e29 := ⟨by kernel_rfl, by kernel_rfl, rfl, by kernel_rfl⟩
def e30 : TE := ⟨.struct [(0, 9), (1, 29)], 2, 40, .agg #[.string ByteArray.empty, .slice none 0 0], .no⟩
theorem e30_ok : TE.ok Try.prog 30 e30 := ⟨by kernel_rfl, by kernel_rfl, rfl, by kernel_rfl⟩
def e31 : TE := ⟨.struct [(0, 9), (1, 29)], 2, 40, .agg #[.string ByteArray.empty, .slice none 0 0], .no⟩
theorem e31_ok : TE.ok Try.prog 31 e31 := ⟨by kernel_rfl, by kernel_rfl, rfl, by kernel_rfl⟩
def e49 : TE := ⟨.slice 23, 1, 24, .slice none 0 0, .no⟩
theorem e49_ok : TE.ok Try.prog 49 e49 := ⟨by kernel_rfl, by kernel_rfl, rfl, by kernel_rfl⟩
def e53 : TE := ⟨.slice 57, 1, 24, .slice none 0 0, .no⟩
theorem e53_ok : TE.ok Try.prog 53 e53 := ⟨by kernel_rfl, by kernel_rfl, rfl, by kernel_rfl⟩
def e54 : TE := ⟨.struct [(0, 3), (1, 3)], 2, 16, .agg #[.int .i64 0, .int .i64 0], .st [0, 0]⟩
theorem e54_ok : TE.ok Try.prog 54 e54 := ⟨by kernel_rfl, by kernel_rfl, rfl, by kernel_rfl⟩
def e55 : TE := ⟨.struct [(0, 3), (1, 3)], 2, 16, .agg #[.int .i64 0, .int .i64 0], .st [0, 0]⟩
theorem e55_ok : TE.ok Try.prog 55 e55 := ⟨by kernel_rfl, by kernel_rfl, rfl, by kernel_rfl⟩
def e56 : TE := ⟨.struct [(0, 3), (1, 3), (2, 3)], 3, 24, .agg #[.int .i64 0, .int .i64 0, .int .i64 0], .st [0, 0, 0]⟩
theorem e56_ok : TE.ok Try.prog 56 e56 := ⟨by kernel_rfl, by kernel_rfl, rfl, by kernel_rfl⟩
def e57 : TE := ⟨.struct [(0, 3), (1, 3), (2, 3)], 3, 24, .agg #[.int .i64 0, .int .i64 0, .int .i64 0], .st [0, 0, 0]⟩
theorem e57_ok : TE.ok Try.prog 57 e57 := ⟨by kernel_rfl, by kernel_rfl, rfl, by kernel_rfl⟩
def e63 : TE := ⟨.slice 65, 1, 24, .slice none 0 0, .no⟩
theorem e63_ok : TE.ok Try.prog 63 e63 := ⟨by kernel_rfl, by kernel_rfl, rfl, by kernel_rfl⟩
def e64 : TE := ⟨.struct [(0, 3), (1, 3), (2, 3)], 3, 24, .agg #[.int .i64 0, .int .i64 0, .int .i64 0], .st [0, 0, 0]⟩
theorem e64_ok : TE.ok Try.prog 64 e64 := ⟨by kernel_rfl, by kernel_rfl, rfl, by kernel_rfl⟩
def e65 : TE := ⟨.struct [(0, 3), (1, 3), (2, 3)], 3, 24, .agg #[.int .i64 0, .int .i64 0, .int .i64 0], .st [0, 0, 0]⟩
theorem e65_ok : TE.ok Try.prog 65 e65 := ⟨by kernel_rfl, by kernel_rfl, rfl, by kernel_rfl⟩
def e68 : TE := ⟨.array 2 23, 2, 48, .agg #[.slice none 0 0, .slice none 0 0], .no⟩
theorem e68_ok : TE.ok Try.prog 68 e68 := ⟨by kernel_rfl, by kernel_rfl, rfl, by kernel_rfl⟩
def e70 : TE := ⟨.slice 26, 1, 24, .slice none 0 0, .no⟩
theorem e70_ok : TE.ok Try.prog 70 e70 := ⟨by kernel_rfl, by kernel_rfl, rfl, by kernel_rfl⟩
def e90 : TE := ⟨.slice 5, 1, 24, .slice none 0 0, .no⟩
theorem e90_ok : TE.ok Try.prog 90 e90 := ⟨by kernel_rfl, by kernel_rfl, rfl, by kernel_rfl⟩
def e91 : TE := ⟨.int .u64, 1, 8, .int .u64 0, .no⟩
theorem e91_ok : TE.ok Try.prog 91 e91 := ⟨by kernel_rfl, by kernel_rfl, rfl, by kernel_rfl⟩
def e93 : TE := ⟨.struct [(0, 17), (1, 17), (2, 17), (3, 9)], 4, 40, .agg #[.pointer none, .pointer none, .pointer none, .string ByteArray.empty], .no⟩
theorem e93_ok : TE.ok Try.prog 93 e93 := ⟨by kernel_rfl, by kernel_rfl, rfl, by kernel_rfl⟩
def e99 : TE := ⟨.int .u32, 1, 4, .int .u32 0, .no⟩
theorem e99_ok : TE.ok Try.prog 99 e99 := ⟨by kernel_rfl, by kernel_rfl, rfl, by kernel_rfl⟩
def e103 : TE := ⟨.one, 1, 8, .pointer none, .ptr⟩
theorem e103_ok : TE.ok Try.prog 103 e103 := ⟨by kernel_rfl, by kernel_rfl, rfl, by kernel_rfl⟩
def tab : Tab := [(2, e2), (3, e3), (4, e4), (5, e5), (9, e9), (12, e12), (17, e17), (21, e21), (22, e22), (23, e23), (24, e24), (25, e25), (26, e26), (29, e29), (30, e30), (31, e31), (49, e49), (53, e53), (54, e54), (55, e55), (56, e56), (57, e57), (63, e63), (64, e64), (65, e65), (68, e68), (70, e70), (90, e90), (91, e91), (93, e93), (99, e99), (103, e103)]
theorem tab_ok : TabOk Try.prog tab := TabOk.cons e2_ok (TabOk.cons e3_ok (TabOk.cons e4_ok (TabOk.cons e5_ok (TabOk.cons e9_ok (TabOk.cons e12_ok (TabOk.cons e17_ok (TabOk.cons e21_ok (TabOk.cons e22_ok (TabOk.cons e23_ok (TabOk.cons e24_ok (TabOk.cons e25_ok (TabOk.cons e26_ok (TabOk.cons e29_ok (TabOk.cons e30_ok (TabOk.cons e31_ok (TabOk.cons e49_ok (TabOk.cons e53_ok (TabOk.cons e54_ok (TabOk.cons e55_ok (TabOk.cons e56_ok (TabOk.cons e57_ok (TabOk.cons e63_ok (TabOk.cons e64_ok (TabOk.cons e65_ok (TabOk.cons e68_ok (TabOk.cons e70_ok (TabOk.cons e90_ok (TabOk.cons e91_ok (TabOk.cons e93_ok (TabOk.cons e99_ok (TabOk.cons e103_ok (TabOk.nil _))))))))))))))))))))))))))))))))
def lex : Ord := fun _ => none
end Go.Proofs.Ytinamdapdlnlnaa
