/-
  hours.Change: the result in one form; the example of the laws.
-/
import Derived.Test.YtdakikgebfphmaaHblC
import Derived.Test.YtdakikgebfphmaaDspK
namespace Go.Proofs.Ytdakikgebfphmaa
open Go.RowKit Go.ChangeShapes Go.WideShapes

/-- Change's result in one form -/
def hgH (n nx : Nat) (s : Nat → ByteArray) (m : Nat → Nat) (p q : Nat → Nat → Int) (x : Nat → Int) (T g : Int) (obs : List OB) (v : AV) : Prop :=
  obs = [] ∧ ∃ K gg c, v = .tup [.agg [.c (.sl 1 K (c1 gg)), intV c], intV (hgE n nx s m p q x T g)] ∧ (hgE n nx s m p q x T g ≠ 0 → K = 0 ∧ c = 0) ∧
    (hgE n nx s m p q x T g = 0 → K = n ∧ ∃ π y, Sorted (bSz (wM m p (hLo x g) (hHi m p x g)) (wQ m p q (hLo x g)) n) π (oN (wM m p (hLo x g) (hHi m p x g)) n) ∧ (y = fun k => hLo x g k + wX m p (hLo x g) (hHi m p x g) n π (T - S (hLo x g) n) k) ∧
      (gg = fun k => y k - x k) ∧ c = S (wC m p q y) n - S (wC m p q x) n)
theorem changeR (s : Nat → ByteArray) (m : Nat → Nat) (p q : Nat → Nat → Int) (n nx : Nat) (x : Nat → Int) (T g : Int) (hn : n ≤ maxLen) (hk : ∀ k, k < n → (s k).size ≤ maxLen ∧ m k ≤ maxLen) (hnx : nx ≤ maxLen) :
    Fn Try.prog 53 [.c (.sl 2 n (cO s m p q)), .c (.sl 1 nx (c1 x)), intV T, intV g] (hgH n nx s m p q x T g) :=
  (hChange s m p q n nx x T g hn hk hnx).res fun obs r ⟨h1, h2⟩ => by
    rcases h2 with ⟨h2, rfl⟩ | ⟨h2, π, hq, rfl⟩
    · exact ⟨_, ⟨h1, 0, fun _ => 0, 0, rfl, fun _ => ⟨rfl, rfl⟩, fun h => absurd h h2⟩, uTup (Le.cons (Le1.agg (Le.cons uNil (Le.cons (Le1.refl _) Le.nil))) (Le.cons (Le1.refl _) Le.nil))⟩
    · exact ⟨_, ⟨h1, n, _, _, rfl, fun h => absurd h2 h, fun _ => ⟨rfl, π, _, hq, rfl, rfl, rfl⟩⟩, by rw [h2]; exact Le1.refl _⟩
/-- the example: the changes of two plans of 10 -/
def zX : Nat → Int := fun _ => 10
theorem zDx : dxE 2 2 (xS ⟨#[65]⟩ ⟨#[66]⟩) xM xP xQ zX = 0 := by
  unfold dxE
  rw [if_neg (fun h => h xOffs), if_neg (by decide)]
  decide
theorem zE : hgE 2 2 (xS ⟨#[65]⟩ ⟨#[66]⟩) xM xP xQ zX 22 2 = 0 := by
  unfold hgE
  rw [if_neg (fun h => h zDx), if_neg (by decide), if_pos (by decide)]
theorem zSorted : Sorted (bSz (wM xM xP (hLo zX 2) (hHi xM xP zX 2)) (wQ xM xP xQ (hLo zX 2)) 2) xPi (oN (wM xM xP (hLo zX 2) (hHi xM xP zX 2)) 2) := by
  refine ⟨fun i j hi hij hj => ?_, rea_in id (by decide) (by decide) (by decide)⟩
  have h4 : oN (wM xM xP (hLo zX 2) (hHi xM xP zX 2)) 2 = 4 := by decide
  rw [h4] at hj
  have key : ∀ i, i < 4 → ∀ j, j < 4 → i < j → bSz (wM xM xP (hLo zX 2) (hHi xM xP zX 2)) (wQ xM xP xQ (hLo zX 2)) 2 (xPi i) < bSz (wM xM xP (hLo zX 2) (hHi xM xP zX 2)) (wQ xM xP xQ (hLo zX 2)) 2 (xPi j) ∨ bSz (wM xM xP (hLo zX 2) (hHi xM xP zX 2)) (wQ xM xP xQ (hLo zX 2)) 2 (xPi i) = bSz (wM xM xP (hLo zX 2) (hHi xM xP zX 2)) (wQ xM xP xQ (hLo zX 2)) 2 (xPi j) ∧ xPi i < xPi j := by decide
  exact key i (by omega) j hj hij
theorem zC {π : Nat → Nat} (h : Sorted (bSz (wM xM xP (hLo zX 2) (hHi xM xP zX 2)) (wQ xM xP xQ (hLo zX 2)) 2) π (oN (wM xM xP (hLo zX 2) (hHi xM xP zX 2)) 2)) :
    S (wC xM xP xQ fun k => hLo zX 2 k + wX xM xP (hLo zX 2) (hHi xM xP zX 2) 2 π (22 - S (hLo zX 2) 2) k) 2 - S (wC xM xP xQ zX) 2 = 16 := by
  have e : S (wC xM xP xQ fun k => hLo zX 2 k + wX xM xP (hLo zX 2) (hHi xM xP zX 2) 2 π (22 - S (hLo zX 2) 2) k) 2 = S (wC xM xP xQ fun k => hLo zX 2 k + wX xM xP (hLo zX 2) (hHi xM xP zX 2) 2 xPi (22 - S (hLo zX 2) 2) k) 2 := S_congr fun k hk => by
    unfold wC
    show S (ct _ _ (hLo zX 2 k + wX xM xP (hLo zX 2) (hHi xM xP zX 2) 2 π (22 - S (hLo zX 2) 2) k)) _ = S (ct _ _ (hLo zX 2 k + wX xM xP (hLo zX 2) (hHi xM xP zX 2) 2 xPi (22 - S (hLo zX 2) 2) k)) _
    rw [show wX xM xP (hLo zX 2) (hHi xM xP zX 2) 2 π (22 - S (hLo zX 2) 2) k = wX xM xP (hLo zX 2) (hHi xM xP zX 2) 2 xPi (22 - S (hLo zX 2) 2) k from bX_uniq h zSorted _ k]
  rw [e]
  decide
end Go.Proofs.Ytdakikgebfphmaa
