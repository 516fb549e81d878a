/-
  convexpl.Add.
-/
import Derived.Test.YtnkgoidhejeacaaCvxAP
import Derived.Test.YtnkgoidhejeacaaCvxN
import Derived.Test.YtnkgoidhejeacaaCvxO
namespace Go.Proofs.Ytnkgoidhejeacaa
open Go.RowKit

def gamXK : Gam := fun f => match f with
  | 20 => some (sCxi (fun lo v n p q x => okCx lo v n p q ∧ lo ≤ x ∧ x ≤ lo + S p n) fun lo v n p q x => intV (v + S (ct p q (x - lo)) n))
  | 18 => some (sCx okCx fun lo _ n p _ => intV (lo + S p n))
  | _ => none
theorem gamXK_ok : GOk Try.prog gamXK := fun f g h => by
  unfold gamXK at h
  split at h
  · injection h with h; subst h; exact sCxi_ok fun lo v n p q x h => cxat lo v n p q x h
  · injection h with h; subst h; exact sCx_ok fun lo v n p q h => cxhigh lo v n p q h
  · cases h
/-- the second function may be read before the first one is cut -/
def ordAdd : Ord := fun id => if id = 7 then some (.go 1 (.go 2 (.go 5 (.go 6 (.go 0 (.fork (.alt 3 (.go 4 (.go 7 (.go 8 (.go 9 (.done))))) (.alt 4 (.go 3 (.go 7 (.go 8 (.go 9 (.done))))) (.none))))))))) else none
/-- the pieces of a function between two levels -/
def kN (n : Nat) (p : Nat → Int) (L E : Int) : Nat := cn p L E n
def kP (n : Nat) (p : Nat → Int) (L E : Int) (j : Nat) : Int := ln p L E (cA p L E n + j)
def kQ (n : Nat) (p q : Nat → Int) (L E : Int) (j : Nat) : Int := q (cA p L E n + j)
theorem kcut {lo v : Int} {n : Nat} {p q : Nat → Int} {low e : Int} (h : okCx lo v n p q) (h1 : lo ≤ low) (h2 : low ≤ e) (h3 : e ≤ lo + S p n) :
    okCx low (cW v n p q (low - lo).toNat) (kN n p (low - lo) (e - lo)) (kP n p (low - lo) (e - lo)) (kQ n p q (low - lo) (e - lo)) ∧ S (kP n p (low - lo) (e - lo)) (kN n p (low - lo) (e - lo)) = e - low ∧
    ∀ m : Nat, low + m ≤ e → cW (cW v n p q (low - lo).toNat) (kN n p (low - lo) (e - lo)) (kP n p (low - lo) (e - lo)) (kQ n p q (low - lo) (e - lo)) m = cW v n p q ((low - lo).toNat + m) := by
  obtain ⟨L, hL⟩ : ∃ L : Nat, low - lo = L := ⟨(low - lo).toNat, by omega⟩
  obtain ⟨E, hE⟩ : ∃ E : Nat, e - lo = E := ⟨(e - lo).toNat, by omega⟩
  rw [hL, hE, Int.toNat_natCast]
  obtain rfl : low = lo + L := by omega
  refine ⟨cut_ok h (by omega) (by omega), ?_, fun m hm => cut_W h (by omega) (by omega) m (by omega)⟩
  have := cut_T (p := p) (n := n) (L := (L : Int)) (E := (E : Int)) h.pos (by omega) (by omega) (by omega)
  exact this.trans (by omega)
/-- the sum of two functions, in pieces -/
def Sum2 (lo v : Int) (n : Nat) (p q : Nat → Int) (lo' v' : Int) (n' : Nat) (p' q' : Nat → Int) (K : Nat) (V : Int) (P Q : Nat → Int) : Prop :=
  (∀ i, i < K → 1 ≤ P i ∧ P i ≤ 2000000) ∧ K ≤ 128 ∧ S P K = min (lo + S p n) (lo' + S p' n') - max lo lo' ∧
  ∀ m : Nat, max lo lo' + m ≤ min (lo + S p n) (lo' + S p' n') → cW V K P Q m = cW v n p q ((max lo lo' - lo).toNat + m) + cW v' n' p' q' ((max lo lo' - lo').toNat + m)
/-- what Add returns -/
def addK (lo v : Int) (n : Nat) (p q : Nat → Int) (lo' v' : Int) (n' : Nat) (p' q' : Nat → Int) (obs : List OB) (r : AV) : Prop :=
  obs = [] ∧ ((cx2E lo v n p q lo' v' n' p' q' ≠ 0 ∧ r = .tup [nulV, intV (cx2E lo v n p q lo' v' n' p' q')]) ∨
    (cx2E lo v n p q lo' v' n' p' q' = 0 ∧ max lo lo' > min (lo + S p n) (lo' + S p' n') ∧ r = .tup [nulV, intV 8]) ∨
    (cx2E lo v n p q lo' v' n' p' q' = 0 ∧ ¬max lo lo' > min (lo + S p n) (lo' + S p' n') ∧ ∃ K V P Q, Sum2 lo v n p q lo' v' n' p' q' K V P Q ∧ madeJ (max lo lo') V K P Q [] r))
def cutKP (n : Nat) (p q : Nat → Int) (L E : Int) (obs : List OB) (r : AV) : Prop := obs = [.row 45 2 (kN n p L E) false (c2 (kP n p L E) (kQ n p q L E))] ∧ r = .own 0
theorem cxcutP (lo v : Int) (n : Nat) (p q : Nat → Int) (low e : Int) (h : okCx lo v n p q) (h1 : lo ≤ low) (h2 : low ≤ e) (h3 : e ≤ lo + S p n) : Fn Try.prog 21 [cxV lo v n p q, intV low, intV e] (cutKP n p q (low - lo) (e - lo)) :=
  Fn.mono (cxcutO lo v n p q low e h h1 h2 h3) fun _ _ h => h
end Go.Proofs.Ytnkgoidhejeacaa
