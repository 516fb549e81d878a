/-
  dispatch: the order of the blocks is one alone; Best's results in one form.
-/
import Derived.Test.YtdakikgebfphmaaDspB
import Derived.Test.YtdakikgebfphmaaDspS
namespace Go.Proofs.Ytdakikgebfphmaa
open Go.RowKit

theorem Sorted.uniq {key : Nat → Int} {π π' : Nat → Nat} {n t : Nat} (h1 : Sorted key π n) (h2 : Sorted key π' n) (ht : t < n) : π t = π' t := by
  obtain ⟨u, hu, e⟩ := h2.onto (h1.lt ht)
  have r1 := h1.rank ht
  have r2 := h2.rank hu
  rw [e] at r2
  have : t = u := by omega
  rw [this, e]
  rw [this]
theorem bCum_uniq {m : Nat → Nat} {p q : Nat → Nat → Int} {n : Nat} {π π' : Nat → Nat} (h1 : Sorted (bSz m q n) π (oN m n)) (h2 : Sorted (bSz m q n) π' (oN m n)) {b : Nat} (hb : b ≤ oN m n) : bCum m p n π b = bCum m p n π' b :=
  S_congr fun k hk => by rw [h1.uniq h2 (by omega)]
theorem bX_uniq {m : Nat → Nat} {p q : Nat → Nat → Int} {n : Nat} {π π' : Nat → Nat} (h1 : Sorted (bSz m q n) π (oN m n)) (h2 : Sorted (bSz m q n) π' (oN m n)) (T : Int) (k : Nat) : bX m p n π T k (oN m n) = bX m p n π' T k (oN m n) :=
  S_congr fun b hb => by
    unfold bTk
    rw [h1.uniq h2 hb, bCum_uniq h1 h2 (Nat.le_of_lt hb), bCum_uniq h1 h2 hb]

/-- the price of the last unit, of the next unit, over the first i offers -/
def loF (m : Nat → Nat) (p q : Nat → Nat → Int) (X : Nat → Int) : Nat → Int
  | 0 => -2000000
  | i + 1 => max (loF m p q X i) (if 0 < X i then U (p i) (q i) (m i) (X i - 1) else -2000000)
def upF (m : Nat → Nat) (p q : Nat → Nat → Int) (X : Nat → Int) : Nat → Int
  | 0 => 2000000
  | i + 1 => min (upF m p q X i) (U (p i) (q i) (m i) (X i))
def gamQ4 : Gam := fun f => match f with
  | 103 => some (sOi (fun s n _ _ _ => s.size ≤ maxLen ∧ n ≤ maxLen) fun s n p q x => .tup [intV (if offXE s n p q x = 0 then (if 0 < x then U p q n (x - 1) else -2000000) else 0), intV (if offXE s n p q x = 0 then U p q n x else 0), intV (offXE s n p q x)])
  | _ => none
theorem gamQ4_ok : GOk Try.prog gamQ4 := fun f g h => by
  unfold gamQ4 at h
  split at h
  · injection h with h; subst h; exact sOi_ok fun s n p q x hp => offMarginal s n p q x hp.1 hp.2
  · cases h
end Go.Proofs.Ytdakikgebfphmaa
