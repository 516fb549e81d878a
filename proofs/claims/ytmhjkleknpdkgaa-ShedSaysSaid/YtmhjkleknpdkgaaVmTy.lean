/-
  The types of this seat. Printed by wip/gen/types.py.
-/
import Derived.Test.YtmhjkleknpdkgaaVmN
import Derived.Test.YtmhjkleknpdkgaaRows
namespace Go.Proofs.Ytmhjkleknpdkgaa
open Go.RowKit

theorem mixed : Try.prog.follows .mixedOrders = true := by kernel_rfl
def e2 : TE := ⟨.int .i64, 1, 8, .int .i64 0, .no⟩
theorem e2_ok : TE.ok Try.prog 2 e2 := ⟨by kernel_rfl, by kernel_rfl, rfl, by kernel_rfl⟩
def e3 : TE := ⟨.int .i64, 1, 8, .int .i64 0, .no⟩
theorem e3_ok : TE.ok Try.prog 3 e3 := ⟨by kernel_rfl, by kernel_rfl, rfl, by kernel_rfl⟩
def e4 : TE := ⟨.one, 1, 1, .bool false, .bool⟩
theorem e4_ok : TE.ok Try.prog 4 e4 := ⟨by kernel_rfl, by kernel_rfl, rfl, by kernel_rfl⟩
def e5 : TE := ⟨.int .u8, 1, 1, .int .u8 0, .no⟩
theorem e5_ok : TE.ok Try.prog 5 e5 := ⟨by kernel_rfl, by kernel_rfl, rfl, by kernel_rfl⟩
def e9 : TE := ⟨.str, 1, 16, .string ByteArray.empty, .no⟩
theorem e9_ok : TE.ok Try.prog 9 e9 := ⟨by kernel_rfl, by kernel_rfl, rfl, by kernel_rfl⟩
def e12 : TE := ⟨.int .u64, 1, 8, .int .u64 0, .no⟩
theorem e12_ok : TE.ok Try.prog 12 e12 := ⟨by kernel_rfl, by kernel_rfl, rfl, by kernel_rfl⟩
def e17 : TE := ⟨.one, 1, 8, .pointer none, .ptr⟩
theorem e17_ok : TE.ok Try.prog 17 e17 := ⟨by kernel_rfl, by kernel_rfl, rfl, by kernel_rfl⟩
def e21 : TE := ⟨.int .i32, 1, 4, .int .i32 0, .no⟩
theorem e21_ok : TE.ok Try.prog 21 e21 := ⟨by kernel_rfl, by kernel_rfl, rfl, by kernel_rfl⟩
def e22 : TE := ⟨.slice 9, 1, 24, .slice none 0 0, .no⟩
theorem e22_ok : TE.ok Try.prog 22 e22 := ⟨by kernel_rfl, by kernel_rfl, rfl, by kernel_rfl⟩
def e25 : TE := ⟨.slice 32, 1, 24, .slice none 0 0, .no⟩
theorem e25_ok : TE.ok Try.prog 25 e25 := ⟨by kernel_rfl, by kernel_rfl, rfl, by kernel_rfl⟩
def e26 : TE := ⟨.slice 3, 1, 24, .slice none 0 0, .no⟩
theorem e26_ok : TE.ok Try.prog 26 e26 := ⟨by kernel_rfl, by kernel_rfl, rfl, by kernel_rfl⟩
def e27 : TE := ⟨.one, 1, 8, .pointer none, .ptr⟩
theorem e27_ok : TE.ok Try.prog 27 e27 := ⟨by kernel_rfl, by kernel_rfl, rfl, by kernel_rfl⟩
def e28 : TE := ⟨.int .i64, 1, 8, .int .i64 0, .no⟩
theorem e28_ok : TE.ok Try.prog 28 e28 := ⟨by kernel_rfl, by kernel_rfl, rfl, by kernel_rfl⟩
def e31 : TE := ⟨.struct [(0, 3), (1, 3), (2, 22)], 3, 40, .agg #[.int .i64 0, .int .i64 0, .slice none 0 0], .no⟩
theorem e31_ok : TE.ok Try.prog 31 e31 := ⟨by kernel_rfl, by kernel_rfl, rfl, by kernel_rfl⟩
def e32 : TE := ⟨.struct [(0, 3), (1, 3), (2, 22)], 3, 40, .agg #[.int .i64 0, .int .i64 0, .slice none 0 0], .no⟩
theorem e32_ok : TE.ok Try.prog 32 e32 := ⟨by kernel_rfl, by kernel_rfl, rfl, by kernel_rfl⟩
def e41 : TE := ⟨.struct [(0, 9), (1, 4), (2, 4), (3, 3), (4, 3)], 5, 40, .agg #[.string ByteArray.empty, .bool false, .bool false, .int .i64 0, .int .i64 0], .st [2, 1, 1, 0, 0]⟩
theorem e41_ok : TE.ok Try.prog 41 e41 := ⟨by kernel_rfl, by kernel_rfl, rfl, by kernel_rfl⟩
def e42 : TE := ⟨.struct [(0, 9), (1, 4), (2, 4), (3, 3), (4, 3)], 5, 40, .agg #[.string ByteArray.empty, .bool false, .bool false, .int .i64 0, .int .i64 0], .st [2, 1, 1, 0, 0]⟩
theorem e42_ok : TE.ok Try.prog 42 e42 := ⟨by kernel_rfl, by kernel_rfl, rfl, by kernel_rfl⟩
def e43 : TE := ⟨.array 8 42, 40, 320, .agg #[.string ByteArray.empty, .bool false, .bool false, .int .i64 0, .int .i64 0, .string ByteArray.empty, .bool false, .bool false, .int .i64 0, .int .i64 0, .string ByteArray.empty, .bool false, .bool false, .int .i64 0, .int .i64 0, .string ByteArray.empty, .bool false, .bool false, .int .i64 0, .int .i64 0, .string ByteArray.empty, .bool false, .bool false, .int .i64 0, .int .i64 0, .string ByteArray.empty, .bool false, .bool false, .int .i64 0, .int .i64 0, .string ByteArray.empty, .bool false, .bool false, .int .i64 0, .int .i64 0, .string ByteArray.empty, .bool false, .bool false, .int .i64 0, .int .i64 0], .no⟩
theorem e43_ok : TE.ok Try.prog 43 e43 := ⟨by kernel_rfl, by kernel_rfl, rfl, by kernel_rfl⟩
def e48 : TE := ⟨.struct [(0, 25), (1, 26), (2, 26)], 3, 72, .agg #[.slice none 0 0, .slice none 0 0, .slice none 0 0], .no⟩
theorem e48_ok : TE.ok Try.prog 48 e48 := ⟨by kernel_rfl, by kernel_rfl, rfl, by kernel_rfl⟩
def e49 : TE := ⟨.struct [(0, 25), (1, 26), (2, 26)], 3, 72, .agg #[.slice none 0 0, .slice none 0 0, .slice none 0 0], .no⟩
theorem e49_ok : TE.ok Try.prog 49 e49 := ⟨by kernel_rfl, by kernel_rfl, rfl, by kernel_rfl⟩
def e58 : TE := ⟨.int .u64, 1, 8, .int .u64 0, .no⟩
theorem e58_ok : TE.ok Try.prog 58 e58 := ⟨by kernel_rfl, by kernel_rfl, rfl, by kernel_rfl⟩
def e60 : TE := ⟨.slice 5, 1, 24, .slice none 0 0, .no⟩
theorem e60_ok : TE.ok Try.prog 60 e60 := ⟨by kernel_rfl, by kernel_rfl, rfl, by kernel_rfl⟩
def e62 : TE := ⟨.int .i64, 1, 8, .int .i64 0, .no⟩
theorem e62_ok : TE.ok Try.prog 62 e62 := ⟨by kernel_rfl, by kernel_rfl, rfl, by kernel_rfl⟩
def e70 : TE := ⟨.int .u32, 1, 4, .int .u32 0, .no⟩
theorem e70_ok : TE.ok Try.prog 70 e70 := ⟨by kernel_rfl, by kernel_rfl, rfl, by kernel_rfl⟩
def e72 : TE := ⟨.int .u64, 1, 8, .int .u64 0, .no⟩
theorem e72_ok : TE.ok Try.prog 72 e72 := ⟨by kernel_rfl, by kernel_rfl, rfl, by kernel_rfl⟩
def e73 : TE := ⟨.int .u64, 1, 8, .int .u64 0, .no⟩
theorem e73_ok : TE.ok Try.prog 73 e73 := ⟨by kernel_rfl, by kernel_rfl, rfl, by kernel_rfl⟩
def e77 : TE := ⟨.one, 1, 8, .pointer none, .ptr⟩
theorem e77_ok : TE.ok Try.prog 77 e77 := ⟨by kernel_rfl, by kernel_rfl, rfl, by kernel_rfl⟩
def e79 : TE := ⟨.one, 1, 8, .pointer none, .ptr⟩
theorem e79_ok : TE.ok Try.prog 79 e79 := ⟨by kernel_rfl, by kernel_rfl, rfl, by kernel_rfl⟩
def e83 : TE := ⟨.struct [(0, 17), (1, 17), (2, 17), (3, 9)], 4, 40, .agg #[.pointer none, .pointer none, .pointer none, .string ByteArray.empty], .no⟩
theorem e83_ok : TE.ok Try.prog 83 e83 := ⟨by kernel_rfl, by kernel_rfl, rfl, by kernel_rfl⟩
def e92 : TE := ⟨.one, 1, 8, .pointer none, .ptr⟩
theorem e92_ok : TE.ok Try.prog 92 e92 := ⟨by kernel_rfl, by kernel_rfl, rfl, by kernel_rfl⟩
def tab : Tab := [(2, e2), (3, e3), (4, e4), (5, e5), (9, e9), (12, e12), (17, e17), (21, e21), (22, e22), (25, e25), (26, e26), (27, e27), (28, e28), (31, e31), (32, e32), (41, e41), (42, e42), (43, e43), (48, e48), (49, e49), (58, e58), (60, e60), (62, e62), (70, e70), (72, e72), (73, e73), (77, e77), (79, e79), (83, e83), (92, e92)]
theorem tab_ok : TabOk Try.prog tab := TabOk.cons e2_ok (TabOk.cons e3_ok (TabOk.cons e4_ok (TabOk.cons e5_ok (TabOk.cons e9_ok (TabOk.cons e12_ok (TabOk.cons e17_ok (TabOk.cons e21_ok (TabOk.cons e22_ok (TabOk.cons e25_ok (TabOk.cons e26_ok (TabOk.cons e27_ok (TabOk.cons e28_ok (TabOk.cons e31_ok (TabOk.cons e32_ok (TabOk.cons e41_ok (TabOk.cons e42_ok (TabOk.cons e43_ok (TabOk.cons e48_ok (TabOk.cons e49_ok (TabOk.cons e58_ok (TabOk.cons e60_ok (TabOk.cons e62_ok (TabOk.cons e70_ok (TabOk.cons e72_ok (TabOk.cons e73_ok (TabOk.cons e77_ok (TabOk.cons e79_ok (TabOk.cons e83_ok (TabOk.cons e92_ok (TabOk.nil _))))))))))))))))))))))))))))))
def lex : Ord := fun _ => none
end Go.Proofs.Ytmhjkleknpdkgaa
