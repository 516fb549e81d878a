/-
  Archive: the calls that are quiet, and the orders of drawing regions.
-/
import Derived.Test.YtjfnhehjhicnoaaDoorArB
namespace Go.Proofs.YtjfnhehjhicnoaaDoor
open Go.RowKit

def lgAr : List Nat := [65, 43, 17, 44]
def gamAr : Gam := quiet lgAr gamN1
theorem gamAr_ok : GOk Tryd.prog gamAr := quiet_ok gamN1_ok
def ordAl : Ord := fun id =>  if id = 1 then some (.go 0 (.go 1 (.go 4 (.go 5 (.go 8 (.go 9 (.go 12 (.go 13 (.go 2 (.go 3 (.go 6 (.go 7 (.go 10 (.go 11 (.go 14 (.go 15 (.go 16 ((.done))))))))))))))))))) else none
def ordAd : Ord := fun id =>  if id = 5 then some (.go 0 (.go 1 (.go 4 (.go 5 (.go 8 (.go 9 (.go 12 (.go 13 (.go 2 (.go 3 (.go 6 (.go 7 (.go 10 (.go 11 (.go 14 (.go 15 (.go 16 (.go 17 ((.done)))))))))))))))))))) else none
def ordAt : Ord := fun id =>  if id = 5 then some (.go 0 (.go 1 (.go 2 (.go 5 (.go 6 (.go 9 (.go 10 (.go 13 (.go 14 (.go 18 (.go 19 (.go 20 (.go 21 (.go 3 (.go 4 (.go 7 (.go 8 (.go 11 (.go 12 (.go 15 (.go 16 (.go 17 (.go 22 (.go 23 (.go 24 (.go 25 (.go 26 (.go 27 ((.done)))))))))))))))))))))))))))))) else none
def ordAp : Ord := fun id =>  if id = 9 then some (.go 0 (.go 1 (.go 2 (.go 3 (.go 5 (.fork (.alt 4 (.go 6 (.go 7 (.go 8 (.go 9 (.go 10 ((.done))))))) (.alt 6 (.go 4 (.go 7 (.go 8 (.go 9 (.go 10 ((.done))))))) (.none))))))))) else none
end Go.Proofs.YtjfnhehjhicnoaaDoor
