/-
  The types of this seat. Printed by wip/gen/types.py.
-/
import Derived.Test.YtogibhkbckfgbaaVmN
import Derived.Test.YtogibhkbckfgbaaRows
namespace Go.Proofs.Ytogibhkbckfgbaa
open Go.RowKit

theorem mixed : Try.prog.follows .mixedOrders = true := by kernel_rfl
def e2 : TE := ⟨.int .i64, 1, 8, .int .i64 0, .no⟩
theorem e2_ok : TE.ok Try.prog 2 e2 := ⟨by kernel_rfl, by kernel_rfl, rfl, by kernel_rfl⟩
def e3 : TE := ⟨.int .i64, 1, 8, .int .i64 0, .no⟩
theorem e3_ok : TE.ok Try.prog 3 e3 := ⟨by kernel_rfl, by kernel_rfl, rfl, by kernel_rfl⟩
def e4 : TE := ⟨.one, 1, 1, .bool false, .bool⟩
theorem e4_ok : TE.ok Try.prog 4 e4 := ⟨by kernel_rfl, by kernel_rfl, rfl, by kernel_rfl⟩
def e5 : TE := ⟨.int .u8, 1, 1, .int .u8 0, .no⟩
theorem e5_ok : TE.ok Try.prog 5 e5 := ⟨by kernel_rfl, by kernel_rfl, rfl, by kernel_rfl⟩
def e9 : TE := ⟨.str, 1, 16, .string ByteArray.empty, .no⟩
theorem e9_ok : TE.ok Try.prog 9 e9 := ⟨by kernel_rfl, by kernel_rfl, rfl, by kernel_rfl⟩
def e12 : TE := ⟨.int .u64, 1, 8, .int .u64 0, .no⟩
theorem e12_ok : TE.ok Try.prog 12 e12 := ⟨by kernel_rfl, by kernel_rfl, rfl, by kernel_rfl⟩
def e17 : TE := ⟨.one, 1, 8, .pointer none, .ptr⟩
theorem e17_ok : TE.ok Try.prog 17 e17 := ⟨by kernel_rfl, by kernel_rfl, rfl, by kernel_rfl⟩
def e21 : TE := ⟨.int .i32, 1, 4, .int .i32 0, .no⟩
theorem e21_ok : TE.ok Try.prog 21 e21 := ⟨by kernel_rfl, by kernel_rfl, rfl, by kernel_rfl⟩
def e22 : TE := ⟨.struct [(0, 3), (1, 3), (2, 3), (3, 3), (4, 3), (5, 3)], 6, 48, .agg #[.int .i64 0, .int .i64 0, .int .i64 0, .int .i64 0, .int .i64 0, .int .i64 0], .st [0, 0, 0, 0, 0, 0]⟩
theorem e22_ok : TE.ok Try.prog 22 e22 := ⟨by kernel_rfl, by kernel_rfl, rfl, by kernel_rfl⟩
def e23 : TE := ⟨.struct [(0, 3), (1, 3), (2, 3), (3, 3), (4, 3), (5, 3)], 6, 48, .agg #[.int .i64 0, .int .i64 0, .int .i64 0, .int .i64 0, .int .i64 0, .int .i64 0], .st [0, 0, 0, 0, 0, 0]⟩
theorem e23_ok : TE.ok Try.prog 23 e23 := ⟨by kernel_rfl, by kernel_rfl, rfl, by kernel_rfl⟩
def e24 : TE := ⟨.int .i64, 1, 8, .int .i64 0, .no⟩
theorem e24_ok : TE.ok Try.prog 24 e24 := ⟨by kernel_rfl, by kernel_rfl, rfl, by kernel_rfl⟩
def e32 : TE := ⟨.slice 36, 1, 24, .slice none 0 0, .no⟩
theorem e32_ok : TE.ok Try.prog 32 e32 := ⟨by kernel_rfl, by kernel_rfl, rfl, by kernel_rfl⟩
def e35 : TE := ⟨.struct [(0, 3), (1, 3)], 2, 16, .agg #[.int .i64 0, .int .i64 0], .st [0, 0]⟩
theorem e35_ok : TE.ok Try.prog 35 e35 := ⟨by kernel_rfl, by kernel_rfl, rfl, by kernel_rfl⟩
def e36 : TE := ⟨.struct [(0, 3), (1, 3)], 2, 16, .agg #[.int .i64 0, .int .i64 0], .st [0, 0]⟩
theorem e36_ok : TE.ok Try.prog 36 e36 := ⟨by kernel_rfl, by kernel_rfl, rfl, by kernel_rfl⟩
def e38 : TE := ⟨.slice 4, 1, 24, .slice none 0 0, .no⟩
theorem e38_ok : TE.ok Try.prog 38 e38 := ⟨by kernel_rfl, by kernel_rfl, rfl, by kernel_rfl⟩
def e39 : TE := ⟨.slice 38, 1, 24, .slice none 0 0, .no⟩
theorem e39_ok : TE.ok Try.prog 39 e39 := ⟨by kernel_rfl, by kernel_rfl, rfl, by kernel_rfl⟩
def e41 : TE := ⟨.slice 110, 1, 24, .slice none 0 0, .no⟩
theorem e41_ok : TE.ok Try.prog 41 e41 := ⟨by kernel_rfl, by kernel_rfl, rfl, by kernel_rfl⟩
def e42 : TE := ⟨.struct [(0, 9), (1, 41)], 2, 40, .agg #[.string ByteArray.empty, .slice none 0 0], .no⟩
theorem e42_ok : TE.ok Try.prog 42 e42 := ⟨by kernel_rfl, by kernel_rfl, rfl, by kernel_rfl⟩
def e43 : TE := ⟨.struct [(0, 9), (1, 41)], 2, 40, .agg #[.string ByteArray.empty, .slice none 0 0], .no⟩
theorem e43_ok : TE.ok Try.prog 43 e43 := ⟨by kernel_rfl, by kernel_rfl, rfl, by kernel_rfl⟩
def e51 : TE := ⟨.struct [(0, 9), (1, 3), (2, 3), (3, 3), (4, 3), (5, 3), (6, 3), (7, 3)], 8, 72, .agg #[.string ByteArray.empty, .int .i64 0, .int .i64 0, .int .i64 0, .int .i64 0, .int .i64 0, .int .i64 0, .int .i64 0], .st [2, 0, 0, 0, 0, 0, 0, 0]⟩
theorem e51_ok : TE.ok Try.prog 51 e51 := ⟨by kernel_rfl, by kernel_rfl, rfl, by kernel_rfl⟩
def e52 : TE := ⟨.struct [(0, 9), (1, 3), (2, 3), (3, 3), (4, 3), (5, 3), (6, 3), (7, 3)], 8, 72, .agg #[.string ByteArray.empty, .int .i64 0, .int .i64 0, .int .i64 0, .int .i64 0, .int .i64 0, .int .i64 0, .int .i64 0], .st [2, 0, 0, 0, 0, 0, 0, 0]⟩
theorem e52_ok : TE.ok Try.prog 52 e52 := ⟨by kernel_rfl, by kernel_rfl, rfl, by kernel_rfl⟩
def e53 : TE := ⟨.struct [(0, 4), (1, 3), (2, 3)], 3, 24, .agg #[.bool false, .int .i64 0, .int .i64 0], .st [1, 0, 0]⟩
theorem e53_ok : TE.ok Try.prog 53 e53 := ⟨by kernel_rfl, by kernel_rfl, rfl, by kernel_rfl⟩
def e54 : TE := ⟨.struct [(0, 4), (1, 3), (2, 3)], 3, 24, .agg #[.bool false, .int .i64 0, .int .i64 0], .st [1, 0, 0]⟩
theorem e54_ok : TE.ok Try.prog 54 e54 := ⟨by kernel_rfl, by kernel_rfl, rfl, by kernel_rfl⟩
def e62 : TE := ⟨.slice 9, 1, 24, .slice none 0 0, .no⟩
theorem e62_ok : TE.ok Try.prog 62 e62 := ⟨by kernel_rfl, by kernel_rfl, rfl, by kernel_rfl⟩
def e63 : TE := ⟨.slice 3, 1, 24, .slice none 0 0, .no⟩
theorem e63_ok : TE.ok Try.prog 63 e63 := ⟨by kernel_rfl, by kernel_rfl, rfl, by kernel_rfl⟩
def e64 : TE := ⟨.slice 69, 1, 24, .slice none 0 0, .no⟩
theorem e64_ok : TE.ok Try.prog 64 e64 := ⟨by kernel_rfl, by kernel_rfl, rfl, by kernel_rfl⟩
def e68 : TE := ⟨.struct [(0, 9), (1, 9), (2, 3)], 3, 40, .agg #[.string ByteArray.empty, .string ByteArray.empty, .int .i64 0], .st [2, 2, 0]⟩
theorem e68_ok : TE.ok Try.prog 68 e68 := ⟨by kernel_rfl, by kernel_rfl, rfl, by kernel_rfl⟩
def e69 : TE := ⟨.struct [(0, 9), (1, 9), (2, 3)], 3, 40, .agg #[.string ByteArray.empty, .string ByteArray.empty, .int .i64 0], .st [2, 2, 0]⟩
theorem e69_ok : TE.ok Try.prog 69 e69 := ⟨by kernel_rfl, by kernel_rfl, rfl, by kernel_rfl⟩
def e74 : TE := ⟨.slice 82, 1, 24, .slice none 0 0, .no⟩
theorem e74_ok : TE.ok Try.prog 74 e74 := ⟨by kernel_rfl, by kernel_rfl, rfl, by kernel_rfl⟩
def e75 : TE := ⟨.struct [(0, 3), (1, 3), (2, 74)], 3, 40, .agg #[.int .i64 0, .int .i64 0, .slice none 0 0], .no⟩
theorem e75_ok : TE.ok Try.prog 75 e75 := ⟨by kernel_rfl, by kernel_rfl, rfl, by kernel_rfl⟩
def e76 : TE := ⟨.struct [(0, 3), (1, 3), (2, 74)], 3, 40, .agg #[.int .i64 0, .int .i64 0, .slice none 0 0], .no⟩
theorem e76_ok : TE.ok Try.prog 76 e76 := ⟨by kernel_rfl, by kernel_rfl, rfl, by kernel_rfl⟩
def e81 : TE := ⟨.struct [(0, 3), (1, 3)], 2, 16, .agg #[.int .i64 0, .int .i64 0], .st [0, 0]⟩
theorem e81_ok : TE.ok Try.prog 81 e81 := ⟨by kernel_rfl, by kernel_rfl, rfl, by kernel_rfl⟩
def e82 : TE := ⟨.struct [(0, 3), (1, 3)], 2, 16, .agg #[.int .i64 0, .int .i64 0], .st [0, 0]⟩
theorem e82_ok : TE.ok Try.prog 82 e82 := ⟨by kernel_rfl, by kernel_rfl, rfl, by kernel_rfl⟩
def e85 : TE := ⟨.slice 43, 1, 24, .slice none 0 0, .no⟩
theorem e85_ok : TE.ok Try.prog 85 e85 := ⟨by kernel_rfl, by kernel_rfl, rfl, by kernel_rfl⟩
def e88 : TE := ⟨.slice 54, 1, 24, .slice none 0 0, .no⟩
theorem e88_ok : TE.ok Try.prog 88 e88 := ⟨by kernel_rfl, by kernel_rfl, rfl, by kernel_rfl⟩
def e93 : TE := ⟨.slice 98, 1, 24, .slice none 0 0, .no⟩
theorem e93_ok : TE.ok Try.prog 93 e93 := ⟨by kernel_rfl, by kernel_rfl, rfl, by kernel_rfl⟩
def e94 : TE := ⟨.slice 99, 1, 24, .slice none 0 0, .no⟩
theorem e94_ok : TE.ok Try.prog 94 e94 := ⟨by kernel_rfl, by kernel_rfl, rfl, by kernel_rfl⟩
def e95 : TE := ⟨.struct [(0, 93), (1, 94), (2, 3)], 3, 56, .agg #[.slice none 0 0, .slice none 0 0, .int .i64 0], .no⟩
theorem e95_ok : TE.ok Try.prog 95 e95 := ⟨by kernel_rfl, by kernel_rfl, rfl, by kernel_rfl⟩
def e96 : TE := ⟨.struct [(0, 93), (1, 94), (2, 3)], 3, 56, .agg #[.slice none 0 0, .slice none 0 0, .int .i64 0], .no⟩
theorem e96_ok : TE.ok Try.prog 96 e96 := ⟨by kernel_rfl, by kernel_rfl, rfl, by kernel_rfl⟩
def e97 : TE := ⟨.struct [(0, 9), (1, 3), (2, 3), (3, 3), (4, 3)], 5, 48, .agg #[.string ByteArray.empty, .int .i64 0, .int .i64 0, .int .i64 0, .int .i64 0], .st [2, 0, 0, 0, 0]⟩
theorem e97_ok : TE.ok Try.prog 97 e97 := ⟨by kernel_rfl, by kernel_rfl, rfl, by kernel_rfl⟩
def e98 : TE := ⟨.struct [(0, 9), (1, 3), (2, 3), (3, 3), (4, 3)], 5, 48, .agg #[.string ByteArray.empty, .int .i64 0, .int .i64 0, .int .i64 0, .int .i64 0], .st [2, 0, 0, 0, 0]⟩
theorem e98_ok : TE.ok Try.prog 98 e98 := ⟨by kernel_rfl, by kernel_rfl, rfl, by kernel_rfl⟩
def e99 : TE := ⟨.array 2 3, 2, 16, .agg #[.int .i64 0, .int .i64 0], .ar 2 0⟩
theorem e99_ok : TE.ok Try.prog 99 e99 := ⟨by kernel_rfl, by kernel_rfl, rfl, by kernel_rfl⟩
def e109 : TE := ⟨.struct [(0, 3), (1, 3)], 2, 16, .agg #[.int .i64 0, .int .i64 0], .st [0, 0]⟩
theorem e109_ok : TE.ok Try.prog 109 e109 := ⟨by kernel_rfl, by kernel_rfl, rfl, by kernel_rfl⟩
def e110 : TE := ⟨.struct [(0, 3), (1, 3)], 2, 16, .agg #[.int .i64 0, .int .i64 0], .st [0, 0]⟩
theorem e110_ok : TE.ok Try.prog 110 e110 := ⟨by kernel_rfl, by kernel_rfl, rfl, by kernel_rfl⟩
def e126 : TE := ⟨.slice 5, 1, 24, .slice none 0 0, .no⟩
theorem e126_ok : TE.ok Try.prog 126 e126 := ⟨by kernel_rfl, by kernel_rfl, rfl, by kernel_rfl⟩
def e129 : TE := ⟨.array 120 3, 120, 960, .agg #[.int .i64 0, .int .i64 0, .int .i64 0, .int .i64 0, .int .i64 0, .int .i64 0, .int .i64 0, .int .i64 0, .int .i64 0, .int .i64 0, .int .i64 0, .int .i64 0, .int .i64 0, .int .i64 0, .int .i64 0, .int .i64 0, .int .i64 0, .int .i64 0, .int .i64 0, .int .i64 0, .int .i64 0, .int .i64 0, .int .i64 0, .int .i64 0, .int .i64 0, .int .i64 0, .int .i64 0, .int .i64 0, .int .i64 0, .int .i64 0, .int .i64 0, .int .i64 0, .int .i64 0, .int .i64 0, .int .i64 0, .int .i64 0, .int .i64 0, .int .i64 0, .int .i64 0, .int .i64 0, .int .i64 0, .int .i64 0, .int .i64 0, .int .i64 0, .int .i64 0, .int .i64 0, .int .i64 0, .int .i64 0, .int .i64 0, .int .i64 0, .int .i64 0, .int .i64 0, .int .i64 0, .int .i64 0, .int .i64 0, .int .i64 0, .int .i64 0, .int .i64 0, .int .i64 0, .int .i64 0, .int .i64 0, .int .i64 0, .int .i64 0, .int .i64 0, .int .i64 0, .int .i64 0, .int .i64 0, .int .i64 0, .int .i64 0, .int .i64 0, .int .i64 0, .int .i64 0, .int .i64 0, .int .i64 0, .int .i64 0, .int .i64 0, .int .i64 0, .int .i64 0, .int .i64 0, .int .i64 0, .int .i64 0, .int .i64 0, .int .i64 0, .int .i64 0, .int .i64 0, .int .i64 0, .int .i64 0, .int .i64 0, .int .i64 0, .int .i64 0, .int .i64 0, .int .i64 0, .int .i64 0, .int .i64 0, .int .i64 0, .int .i64 0, .int .i64 0, .int .i64 0, .int .i64 0, .int .i64 0, .int .i64 0, .int .i64 0, .int .i64 0, .int .i64 0, .int .i64 0, .int .i64 0, .int .i64 0, .int .i64 0, .int .i64 0, .int .i64 0, .int .i64 0, .int .i64 0, .int .i64 0, .int .i64 0, .int .i64 0, .int .i64 0, .int .i64 0, .int .i64 0, .int .i64 0, .int .i64 0], .no⟩
theorem e129_ok : TE.ok Try.prog 129 e129 := ⟨by kernel_rfl, by kernel_rfl, rfl, by kernel_rfl⟩
def e135 : TE := ⟨.struct [(0, 17), (1, 17), (2, 17), (3, 9)], 4, 40, .agg #[.pointer none, .pointer none, .pointer none, .string ByteArray.empty], .no⟩
theorem e135_ok : TE.ok Try.prog 135 e135 := ⟨by kernel_rfl, by kernel_rfl, rfl, by kernel_rfl⟩
def e141 : TE := ⟨.int .u32, 1, 4, .int .u32 0, .no⟩
theorem e141_ok : TE.ok Try.prog 141 e141 := ⟨by kernel_rfl, by kernel_rfl, rfl, by kernel_rfl⟩
def e145 : TE := ⟨.one, 1, 8, .pointer none, .ptr⟩
theorem e145_ok : TE.ok Try.prog 145 e145 := ⟨by kernel_rfl, by kernel_rfl, rfl, by kernel_rfl⟩
def tab : Tab := [(2, e2), (3, e3), (4, e4), (5, e5), (9, e9), (12, e12), (17, e17), (21, e21), (22, e22), (23, e23), (24, e24), (32, e32), (35, e35), (36, e36), (38, e38), (39, e39), (41, e41), (42, e42), (43, e43), (51, e51), (52, e52), (53, e53), (54, e54), (62, e62), (63, e63), (64, e64), (68, e68), (69, e69), (74, e74), (75, e75), (76, e76), (81, e81), (82, e82), (85, e85), (88, e88), (93, e93), (94, e94), (95, e95), (96, e96), (97, e97), (98, e98), (99, e99), (109, e109), (110, e110), (126, e126), (129, e129), (135, e135), (141, e141), (145, e145)]
theorem tab_ok : TabOk Try.prog tab := TabOk.cons e2_ok (TabOk.cons e3_ok (TabOk.cons e4_ok (TabOk.cons e5_ok (TabOk.cons e9_ok (TabOk.cons e12_ok (TabOk.cons e17_ok (TabOk.cons e21_ok (TabOk.cons e22_ok (TabOk.cons e23_ok (TabOk.cons e24_ok (TabOk.cons e32_ok (TabOk.cons e35_ok (TabOk.cons e36_ok (TabOk.cons e38_ok (TabOk.cons e39_ok (TabOk.cons e41_ok (TabOk.cons e42_ok (TabOk.cons e43_ok (TabOk.cons e51_ok (TabOk.cons e52_ok (TabOk.cons e53_ok (TabOk.cons e54_ok (TabOk.cons e62_ok (TabOk.cons e63_ok (TabOk.cons e64_ok (TabOk.cons e68_ok (TabOk.cons e69_ok (TabOk.cons e74_ok (TabOk.cons e75_ok (TabOk.cons e76_ok (TabOk.cons e81_ok (TabOk.cons e82_ok (TabOk.cons e85_ok (TabOk.cons e88_ok (TabOk.cons e93_ok (TabOk.cons e94_ok (TabOk.cons e95_ok (TabOk.cons e96_ok (TabOk.cons e97_ok (TabOk.cons e98_ok (TabOk.cons e99_ok (TabOk.cons e109_ok (TabOk.cons e110_ok (TabOk.cons e126_ok (TabOk.cons e129_ok (TabOk.cons e135_ok (TabOk.cons e141_ok (TabOk.cons e145_ok (TabOk.nil _)))))))))))))))))))))))))))))))))))))))))))))))))
def lex : Ord := fun _ => none
end Go.Proofs.Ytogibhkbckfgbaa
