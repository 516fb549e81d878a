/-
  Names: the third reference's Named.
-/
import Derived.Test.YtnkgoidhejeacaaNmB
namespace Go.Proofs.Ytnkgoidhejeacaa
open Go.RowKit


def gamN2 : Gam := fun f => match f with
  | _ => none
theorem gamN2_ok : GOk Try.prog gamN2 := fun f g h => by
  unfold gamN2 at h
  split at h
  · cases h

end Go.Proofs.Ytnkgoidhejeacaa
