/-
  Large numbers: the calls that are quiet, and the orders of drawing regions.
-/
import Derived.Test.YtjfnhehjhicnoaaDoorName
namespace Go.Proofs.YtjfnhehjhicnoaaDoor
open Go.RowKit

/-- a table, and calls that change nothing that was there -/
def quiet (l : List Nat) (Γ : Gam) : Gam := fun f => bif Nat.blt f 2000000 then Γ f else bif l.any (Nat.beq (f - 2000000)) then some (fun _ => (.p False, .top)) else none
theorem quiet_ok {P : Program} {l : List Nat} {Γ : Gam} (h : GOk P Γ) : GOk P (quiet l Γ) := fun f g hg args => by
  unfold quiet at hg
  cases hb : Nat.blt f 2000000 with
  | true =>
    rw [hb] at hg
    exact h f g hg args
  | false =>
    rw [hb] at hg
    cases hc : l.any (Nat.beq (f - 2000000)) with
    | true =>
      rw [hc] at hg
      injection hg with hg
      subst hg
      exact fun hs => (show False from hs).elim
    | false =>
      rw [hc] at hg
      cases hg
def lgL : List Nat := [71, 98, 112, 95, 108, 107, 109, 79, 111, 78, 120, 148, 123, 124, 97, 84, 96, 94, 77, 83, 70, 60, 48, 56, 69, 57, 80, 81, 59, 110, 87, 82, 1000000 + 165]
def gamLg : Gam := quiet lgL gamN1
theorem gamLg_ok : GOk Tryd.prog gamLg := quiet_ok gamN1_ok
def ordIA : Ord := fun id =>  none
def ordIS : Ord := fun id =>  none
def ordDM : Ord := fun id =>  if id = 2 then some (.go 0 (.go 1 (.go 2 (.go 5 (.go 6 (.go 7 (.fork (.alt 3 (.fork (.alt 4 (.fork (.alt 8 (.fork (.alt 9 (.fork (.alt 10 (.go 11 (.go 12 (.go 13 ((.done))))) (.alt 11 (.go 10 (.go 12 (.go 13 ((.done))))) (.none)))) (.alt 10 (.fork (.alt 9 (.go 11 (.go 12 (.go 13 ((.done))))) (.alt 11 (.go 9 (.go 12 (.go 13 ((.done))))) (.none)))) (.alt 11 (.fork (.alt 9 (.go 10 (.go 12 (.go 13 ((.done))))) (.alt 10 (.go 9 (.go 12 (.go 13 ((.done))))) (.none)))) (.none))))) (.alt 10 (.fork (.alt 8 (.fork (.alt 9 (.go 11 (.go 12 (.go 13 ((.done))))) (.alt 11 (.go 9 (.go 12 (.go 13 ((.done))))) (.none)))) (.alt 11 (.go 8 (.go 9 (.go 12 (.go 13 ((.done)))))) (.none)))) (.alt 11 (.fork (.alt 8 (.fork (.alt 9 (.go 10 (.go 12 (.go 13 ((.done))))) (.alt 10 (.go 9 (.go 12 (.go 13 ((.done))))) (.none)))) (.alt 10 (.go 8 (.go 9 (.go 12 (.go 13 ((.done)))))) (.none)))) (.none))))) (.alt 10 (.fork (.alt 4 (.fork (.alt 8 (.fork (.alt 9 (.go 11 (.go 12 (.go 13 ((.done))))) (.alt 11 (.go 9 (.go 12 (.go 13 ((.done))))) (.none)))) (.alt 11 (.go 8 (.go 9 (.go 12 (.go 13 ((.done)))))) (.none)))) (.alt 11 (.go 4 (.go 8 (.go 9 (.go 12 (.go 13 ((.done))))))) (.none)))) (.alt 11 (.fork (.alt 4 (.fork (.alt 8 (.fork (.alt 9 (.go 10 (.go 12 (.go 13 ((.done))))) (.alt 10 (.go 9 (.go 12 (.go 13 ((.done))))) (.none)))) (.alt 10 (.go 8 (.go 9 (.go 12 (.go 13 ((.done)))))) (.none)))) (.alt 10 (.go 4 (.go 8 (.go 9 (.go 12 (.go 13 ((.done))))))) (.none)))) (.none))))) (.alt 10 (.fork (.alt 3 (.fork (.alt 4 (.fork (.alt 8 (.fork (.alt 9 (.go 11 (.go 12 (.go 13 ((.done))))) (.alt 11 (.go 9 (.go 12 (.go 13 ((.done))))) (.none)))) (.alt 11 (.go 8 (.go 9 (.go 12 (.go 13 ((.done)))))) (.none)))) (.alt 11 (.go 4 (.go 8 (.go 9 (.go 12 (.go 13 ((.done))))))) (.none)))) (.alt 11 (.go 3 (.go 4 (.go 8 (.go 9 (.go 12 (.go 13 ((.done)))))))) (.none)))) (.alt 11 (.fork (.alt 3 (.fork (.alt 4 (.fork (.alt 8 (.fork (.alt 9 (.go 10 (.go 12 (.go 13 ((.done))))) (.alt 10 (.go 9 (.go 12 (.go 13 ((.done))))) (.none)))) (.alt 10 (.go 8 (.go 9 (.go 12 (.go 13 ((.done)))))) (.none)))) (.alt 10 (.go 4 (.go 8 (.go 9 (.go 12 (.go 13 ((.done))))))) (.none)))) (.alt 10 (.go 3 (.go 4 (.go 8 (.go 9 (.go 12 (.go 13 ((.done)))))))) (.none)))) (.none))))))))))) else if id = 4 then some (.go 0 (.go 3 (.go 4 (.go 1 (.go 2 (.go 5 (.go 6 (.go 7 ((.done)))))))))) else if id = 5 then some (.go 0 (.fork (.alt 1 (.go 2 (.go 3 ((.done)))) (.alt 2 (.go 1 (.go 3 ((.done)))) (.none))))) else none
def ordGc : Ord := fun id =>  none
def ordRa : Ord := fun id =>  if id = 2 then some (.go 0 (.go 2 (.go 1 (.go 3 (.go 4 (.go 5 ((.done)))))))) else none
def ordRA : Ord := fun id =>  if id = 1 then some (.go 0 (.go 1 (.go 2 (.go 3 (.go 5 (.go 6 (.go 7 (.go 8 (.go 11 (.go 12 (.go 13 (.go 14 (.go 4 (.go 9 (.go 10 (.go 15 (.go 16 (.go 17 ((.done)))))))))))))))))))) else none
def ordRS : Ord := fun id =>  none
def ordRM : Ord := fun id =>  if id = 1 then some (.go 0 (.go 1 (.go 2 (.go 3 (.go 5 (.go 6 (.go 7 (.go 8 (.go 4 (.go 9 (.go 10 (.go 11 ((.done)))))))))))))) else none
def ordRD : Ord := fun id =>  if id = 1 then some (.go 0 (.go 1 (.go 2 (.go 3 (.go 5 (.go 6 (.go 7 (.go 8 (.go 4 (.go 9 (.go 10 (.go 11 ((.done)))))))))))))) else none
def ordRC : Ord := fun id =>  if id = 1 then some (.go 0 (.go 1 (.go 2 (.go 3 (.go 5 (.go 6 (.go 7 (.go 8 (.go 4 (.go 9 (.go 10 (.go 11 ((.done)))))))))))))) else none
def ordRN : Ord := fun id =>  if id = 1 then some (.go 0 (.go 1 (.go 3 (.go 4 (.go 2 (.go 5 (.go 6 ((.done))))))))) else none
def ordRe : Ord := fun id =>  if id = 7 then some (.go 0 (.go 3 (.go 4 (.go 1 (.go 2 (.go 5 (.go 6 (.go 7 ((.done)))))))))) else none
def ordSr : Ord := fun id =>  none
def ordSw : Ord := fun id =>  if id = 10 then some (.go 1 (.go 2 (.go 4 (.fork (.alt 0 (.fork (.alt 3 (.go 5 (.go 6 (.go 7 (.go 8 (.go 9 ((.done))))))) (.alt 5 (.go 3 (.go 6 (.go 7 (.go 8 (.go 9 ((.done))))))) (.none)))) (.alt 3 (.go 0 (.go 5 (.go 6 (.go 7 (.go 8 (.go 9 ((.done)))))))) (.alt 5 (.fork (.alt 0 (.go 3 (.go 6 (.go 7 (.go 8 (.go 9 ((.done))))))) (.alt 3 (.go 0 (.go 6 (.go 7 (.go 8 (.go 9 ((.done))))))) (.none)))) (.none)))))))) else none
def ordSx : Ord := fun id =>  if id = 1 then some (.go 0 (.go 1 (.go 2 (.go 3 (.go 4 (.go 6 (.go 7 (.go 9 (.go 5 (.go 8 (.go 10 (.go 11 (.go 12 ((.done))))))))))))))) else none
def ordDW : Ord := fun id =>  if id = 7 then some (.go 0 (.go 1 (.go 3 (.go 4 (.go 6 (.go 7 (.go 2 (.go 5 (.go 8 (.go 9 (.go 10 ((.done))))))))))))) else none
def ordRF : Ord := fun id =>  none
def ordSm : Ord := fun id =>  none
def ordIT : Ord := fun id =>  none
def ordRT : Ord := fun id =>  none
def ordPa : Ord := fun id =>  none
def ordPl : Ord := fun id =>  none
def ordFr : Ord := fun id =>  none
def ordWh : Ord := fun id =>  none
def ordFM : Ord := fun id =>  none
def ordFL : Ord := fun id =>  if id = 19 then some (.go 0 (.go 1 (.go 2 (.go 3 (.go 4 (.go 5 (.go 6 (.go 7 (.go 8 (.go 9 (.go 10 (.fork (.alt 11 (.go 12 (.go 13 (.go 14 (.go 15 (.go 16 ((.done))))))) (.alt 12 (.go 11 (.go 13 (.go 14 (.go 15 (.go 16 ((.done))))))) (.none))))))))))))))) else none
def ordSL : Ord := fun id =>  if id = 6 then some (.go 0 (.go 1 (.go 3 (.fork (.alt 2 (.go 4 (.go 6 (.go 5 (.go 7 (.go 8 (.go 9 ((.done)))))))) (.alt 4 (.go 2 (.go 6 (.go 5 (.go 7 (.go 8 (.go 9 ((.done)))))))) (.none))))))) else if id = 15 then some (.go 0 (.go 1 (.go 2 (.go 4 (.go 5 (.go 6 (.go 7 (.fork (.alt 3 (.go 8 (.go 9 (.go 10 ((.done))))) (.alt 8 (.fork (.alt 3 (.go 9 (.go 10 ((.done)))) (.alt 9 (.go 3 (.go 10 ((.done)))) (.none)))) (.none))))))))))) else none
def ordEL : Ord := fun id =>  if id = 48 then some (.go 0 (.go 1 (.go 2 (.fork (.alt 3 (.go 4 (.go 5 (.go 6 (.go 7 ((.done)))))) (.alt 5 (.go 3 (.go 4 (.go 6 (.go 7 ((.done)))))) (.none))))))) else none
def ordQT : Ord := fun id =>  none
def ordFB : Ord := fun id =>  if id = 12 then some (.go 0 (.go 1 (.go 2 (.go 3 (.go 6 (.go 7 (.go 8 (.go 9 (.go 10 (.go 11 (.fork (.alt 4 (.go 5 (.go 12 (.go 13 (.go 14 ((.done)))))) (.alt 12 (.go 4 (.go 5 (.go 13 (.go 14 ((.done)))))) (.none)))))))))))))) else none
def ordSt : Ord := fun id =>  none
def ordCk : Ord := fun id =>  none
def ordNG : Ord := fun id =>  none
def ordN2 : Ord := fun id =>  none
def ordNC : Ord := fun id =>  none
end Go.Proofs.YtjfnhehjhicnoaaDoor
