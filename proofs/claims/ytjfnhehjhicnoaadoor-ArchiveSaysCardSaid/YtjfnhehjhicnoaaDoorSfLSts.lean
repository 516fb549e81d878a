/-
  A function of the library and what it calls, in this program: what the kit's contract asks. Printed by wip/gen/layn.py.
-/
import Derived.Shelf.Sort.Plain
import Derived.Shelf.Lays
import Derived.Test.YtjfnhehjhicnoaaDoorChecked
namespace Go.Proofs.YtjfnhehjhicnoaaDoor
open Go.RowKit

def sfSts_ren : Go.Shelf.Ren := ⟨fun | 190 => 72 | 125 => 100 | 258 => 99 | 128 => 134 | 129 => 116 | 302 => 125 | 303 => 126 | 304 => 127 | 305 => 128 | 306 => 129 | 307 => 130 | 308 => 131 | 309 => 132 | 310 => 133 | 333 => 149 | 329 => 150 | 330 => 151 | 334 => 152 | 335 => 153 | 336 => 154 | 344 => 167 | n => n, fun | 31 => 96 | 9 => 9 | 3 => 3 | 46 => 109 | 0 => 0 | 51 => 137 | 53 => 25 | 4 => 4 | 183 => 173 | 182 => 172 | 131 => 123 | 5 => 5 | 218 => 188 | 222 => 191 | 228 => 204 | 229 => 205 | n => n, fun | n => n⟩
theorem sfSts : Go.Proofs.Lays.n190 Tryd.prog sfSts_ren where
  mixed := by kernel_rfl
  f125 := Tryd.func100.trans (congrArg some (by kernel_rfl))
  f128 := Tryd.func134.trans (congrArg some (by kernel_rfl))
  f129 := Tryd.func116.trans (congrArg some (by kernel_rfl))
  f190 := Tryd.func72.trans (congrArg some (by kernel_rfl))
  f258 := Tryd.func99.trans (congrArg some (by kernel_rfl))
  f302 := Tryd.func125.trans (congrArg some (by kernel_rfl))
  f303 := Tryd.func126.trans (congrArg some (by kernel_rfl))
  f304 := Tryd.func127.trans (congrArg some (by kernel_rfl))
  f305 := Tryd.func128.trans (congrArg some (by kernel_rfl))
  f306 := Tryd.func129.trans (congrArg some (by kernel_rfl))
  f307 := Tryd.func130.trans (congrArg some (by kernel_rfl))
  f308 := Tryd.func131.trans (congrArg some (by kernel_rfl))
  f309 := Tryd.func132.trans (congrArg some (by kernel_rfl))
  f310 := Tryd.func133.trans (congrArg some (by kernel_rfl))
  f329 := Tryd.func150.trans (congrArg some (by kernel_rfl))
  f330 := Tryd.func151.trans (congrArg some (by kernel_rfl))
  f333 := Tryd.func149.trans (congrArg some (by kernel_rfl))
  f334 := Tryd.func152.trans (congrArg some (by kernel_rfl))
  f335 := Tryd.func153.trans (congrArg some (by kernel_rfl))
  f336 := Tryd.func154.trans (congrArg some (by kernel_rfl))
  f344 := Tryd.func167.trans (congrArg some (by kernel_rfl))
  t0 := Tryd.underlying0
  a0 := Tryd.isAgg0
  z0 := Tryd.sizeOf0
  v0 := Tryd.zeroValue0
  t3 := Tryd.underlying3
  a3 := Tryd.isAgg3
  z3 := Tryd.sizeOf3
  v3 := Tryd.zeroValue3
  t4 := Tryd.underlying4
  a4 := Tryd.isAgg4
  z4 := Tryd.sizeOf4
  v4 := Tryd.zeroValue4
  t5 := Tryd.underlying5
  a5 := Tryd.isAgg5
  z5 := Tryd.sizeOf5
  v5 := Tryd.zeroValue5
  t9 := Tryd.underlying9
  a9 := Tryd.isAgg9
  z9 := Tryd.sizeOf9
  v9 := Tryd.zeroValue9
  t31 := Tryd.underlying96
  a31 := Tryd.isAgg96
  z31 := Tryd.sizeOf96
  v31 := Tryd.zeroValue96
  t46 := Tryd.underlying109
  a46 := Tryd.isAgg109
  z46 := Tryd.sizeOf109
  v46 := Tryd.zeroValue109
  t51 := Tryd.underlying137
  a51 := Tryd.isAgg137
  z51 := Tryd.sizeOf137
  v51 := Tryd.zeroValue137
  t53 := Tryd.underlying25
  a53 := Tryd.isAgg25
  z53 := Tryd.sizeOf25
  v53 := Tryd.zeroValue25
  t131 := Tryd.underlying123
  a131 := Tryd.isAgg123
  z131 := Tryd.sizeOf123
  v131 := Tryd.zeroValue123
  t182 := Tryd.underlying172
  a182 := Tryd.isAgg172
  z182 := Tryd.sizeOf172
  v182 := Tryd.zeroValue172
  t183 := Tryd.underlying173
  a183 := Tryd.isAgg173
  z183 := Tryd.sizeOf173
  v183 := Tryd.zeroValue173
  t218 := Tryd.underlying188
  a218 := Tryd.isAgg188
  z218 := Tryd.sizeOf188
  v218 := Tryd.zeroValue188
  t222 := Tryd.underlying191
  a222 := Tryd.isAgg191
  z222 := Tryd.sizeOf191
  v222 := Tryd.zeroValue191
  t228 := Tryd.underlying204
  a228 := Tryd.isAgg204
  z228 := Tryd.sizeOf204
  v228 := Tryd.zeroValue204
  t229 := Tryd.underlying205
  a229 := Tryd.isAgg205
  z229 := Tryd.sizeOf205
  v229 := Tryd.zeroValue205
end Go.Proofs.YtjfnhehjhicnoaaDoor
