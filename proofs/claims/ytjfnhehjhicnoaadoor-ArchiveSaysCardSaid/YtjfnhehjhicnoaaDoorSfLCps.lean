/-
  A function of the library and what it calls, in this program: what the kit's contract asks. Printed by wip/gen/layn.py.
-/
import Derived.Shelf.Slices.CompactS
import Derived.Shelf.Lays
import Derived.Test.YtjfnhehjhicnoaaDoorChecked
namespace Go.Proofs.YtjfnhehjhicnoaaDoor
open Go.RowKit

def sfCps_ren : Go.Shelf.Ren := ⟨fun | 194 => 73 | n => n, fun | 31 => 96 | 9 => 9 | 3 => 3 | 4 => 4 | 0 => 0 | n => n, fun | n => n⟩
theorem sfCps : Go.Proofs.Lays.n194 Tryd.prog sfCps_ren where
  mixed := by kernel_rfl
  f194 := Tryd.func73.trans (congrArg some (by kernel_rfl))
  t0 := Tryd.underlying0
  a0 := Tryd.isAgg0
  z0 := Tryd.sizeOf0
  v0 := Tryd.zeroValue0
  t3 := Tryd.underlying3
  a3 := Tryd.isAgg3
  z3 := Tryd.sizeOf3
  v3 := Tryd.zeroValue3
  t4 := Tryd.underlying4
  a4 := Tryd.isAgg4
  z4 := Tryd.sizeOf4
  v4 := Tryd.zeroValue4
  t9 := Tryd.underlying9
  a9 := Tryd.isAgg9
  z9 := Tryd.sizeOf9
  v9 := Tryd.zeroValue9
  t31 := Tryd.underlying96
  a31 := Tryd.isAgg96
  z31 := Tryd.sizeOf96
  v31 := Tryd.zeroValue96
end Go.Proofs.YtjfnhehjhicnoaaDoor
