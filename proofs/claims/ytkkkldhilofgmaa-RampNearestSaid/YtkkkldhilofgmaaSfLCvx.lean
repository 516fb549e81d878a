/-
  A function of the library and what it calls, in this program: what the kit's contract asks. Printed by wip/gen/laysf.py.
-/
import Derived.Shelf.SlSortCmp.WholeK
import Derived.Shelf.SlSortCmp.NoneTotal
import Derived.Test.YtkkkldhilofgmaaChecked
namespace Go.Proofs.Ytkkkldhilofgmaa
open Go.RowKit

def sfCvx_ren : Go.Shelf.Ren := ⟨fun | 6 => 70 | 15 => 104 | 14 => 103 | 28 => 129 | 29 => 130 | 20 => 121 | 21 => 122 | 22 => 123 | 23 => 124 | 24 => 125 | 25 => 126 | 26 => 127 | 27 => 128 | 46 => 142 | 47 => 143 | 48 => 144 | 49 => 145 | 50 => 146 | 57 => 150 | n => n, fun | 22 => 39 | 24 => 47 | 25 => 124 | 3 => 3 | 39 => 162 | 0 => 0 | 53 => 184 | 55 => 186 | 4 => 4 | 46 => 177 | 45 => 176 | 50 => 181 | 5 => 5 | 9 => 9 | 66 => 193 | 70 => 197 | 76 => 201 | 77 => 202 | n => n, fun | n => n⟩
theorem sfCvx : Go.Proofs.SlLaysF0.n6 Try.prog sfCvx_ren where
  mixed := by kernel_rfl
  f6 := ⟨ "slices.SortFunc[[]gridhall/api.ConvexPiece,gridhall/api.ConvexPiece]", by decide, Try.func70.trans (congrArg some (by kernel_rfl))⟩
  f14 := ⟨ "slices.pdqsortCmpFunc[gridhall/api.ConvexPiece]", by decide, Try.func103.trans (congrArg some (by kernel_rfl))⟩
  f15 := Try.func104.trans (congrArg some (by kernel_rfl))
  f20 := ⟨ "slices.insertionSortCmpFunc[gridhall/api.ConvexPiece]", by decide, Try.func121.trans (congrArg some (by kernel_rfl))⟩
  f21 := ⟨ "slices.heapSortCmpFunc[gridhall/api.ConvexPiece]", by decide, Try.func122.trans (congrArg some (by kernel_rfl))⟩
  f22 := ⟨ "slices.breakPatternsCmpFunc[gridhall/api.ConvexPiece]", by decide, Try.func123.trans (congrArg some (by kernel_rfl))⟩
  f23 := ⟨ "slices.choosePivotCmpFunc[gridhall/api.ConvexPiece]", by decide, Try.func124.trans (congrArg some (by kernel_rfl))⟩
  f24 := ⟨ "slices.reverseRangeCmpFunc[gridhall/api.ConvexPiece]", by decide, Try.func125.trans (congrArg some (by kernel_rfl))⟩
  f25 := ⟨ "slices.partialInsertionSortCmpFunc[gridhall/api.ConvexPiece]", by decide, Try.func126.trans (congrArg some (by kernel_rfl))⟩
  f26 := ⟨ "slices.partitionEqualCmpFunc[gridhall/api.ConvexPiece]", by decide, Try.func127.trans (congrArg some (by kernel_rfl))⟩
  f27 := ⟨ "slices.partitionCmpFunc[gridhall/api.ConvexPiece]", by decide, Try.func128.trans (congrArg some (by kernel_rfl))⟩
  f28 := Try.func129.trans (congrArg some (by kernel_rfl))
  f29 := Try.func130.trans (congrArg some (by kernel_rfl))
  f46 := ⟨ "slices.siftDownCmpFunc[gridhall/api.ConvexPiece]", by decide, Try.func142.trans (congrArg some (by kernel_rfl))⟩
  f47 := Try.func143.trans (congrArg some (by kernel_rfl))
  f48 := Try.func144.trans (congrArg some (by kernel_rfl))
  f49 := ⟨ "slices.medianAdjacentCmpFunc[gridhall/api.ConvexPiece]", by decide, Try.func145.trans (congrArg some (by kernel_rfl))⟩
  f50 := ⟨ "slices.medianCmpFunc[gridhall/api.ConvexPiece]", by decide, Try.func146.trans (congrArg some (by kernel_rfl))⟩
  f57 := ⟨ "slices.order2CmpFunc[gridhall/api.ConvexPiece]", by decide, Try.func150.trans (congrArg some (by kernel_rfl))⟩
  t0 := Try.underlying0
  a0 := Try.isAgg0
  z0 := Try.sizeOf0
  v0 := Try.zeroValue0
  t3 := Try.underlying3
  a3 := Try.isAgg3
  z3 := Try.sizeOf3
  v3 := Try.zeroValue3
  t4 := Try.underlying4
  a4 := Try.isAgg4
  z4 := Try.sizeOf4
  v4 := Try.zeroValue4
  t5 := Try.underlying5
  a5 := Try.isAgg5
  z5 := Try.sizeOf5
  v5 := Try.zeroValue5
  t9 := Try.underlying9
  a9 := Try.isAgg9
  z9 := Try.sizeOf9
  v9 := Try.zeroValue9
  t22 := Try.underlying39
  a22 := Try.isAgg39
  z22 := Try.sizeOf39
  v22 := Try.zeroValue39
  t25 := Try.underlying124
  a25 := Try.isAgg124
  z25 := Try.sizeOf124
  v25 := Try.zeroValue124
  t39 := Try.underlying162
  a39 := Try.isAgg162
  z39 := Try.sizeOf162
  v39 := Try.zeroValue162
  t45 := Try.underlying176
  a45 := Try.isAgg176
  z45 := Try.sizeOf176
  v45 := Try.zeroValue176
  t46 := Try.underlying177
  a46 := Try.isAgg177
  z46 := Try.sizeOf177
  v46 := Try.zeroValue177
  t50 := Try.underlying181
  a50 := Try.isAgg181
  z50 := Try.sizeOf181
  v50 := Try.zeroValue181
  t53 := Try.underlying184
  a53 := Try.isAgg184
  z53 := Try.sizeOf184
  v53 := Try.zeroValue184
  t55 := Try.underlying186
  a55 := Try.isAgg186
  z55 := Try.sizeOf186
  v55 := Try.zeroValue186
  t66 := Try.underlying193
  a66 := Try.isAgg193
  z66 := Try.sizeOf193
  v66 := Try.zeroValue193
  t70 := Try.underlying197
  a70 := Try.isAgg197
  z70 := Try.sizeOf197
  v70 := Try.zeroValue197
  t76 := Try.underlying201
  a76 := Try.isAgg201
  z76 := Try.sizeOf201
  v76 := Try.zeroValue201
  t77 := Try.underlying202
  a77 := Try.isAgg202
  z77 := Try.sizeOf202
  v77 := Try.zeroValue202
end Go.Proofs.Ytkkkldhilofgmaa
