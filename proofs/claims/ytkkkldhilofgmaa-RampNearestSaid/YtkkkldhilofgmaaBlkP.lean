/-
  Blocks of offers in the order of their prices: plain laws. The blocks of all offers stand in one row, offer by offer.
-/
import Derived.Test.YtkkkldhilofgmaaSrtP
import Derived.Test.YtkkkldhilofgmaaOff2
namespace Go.Proofs.Ytkkkldhilofgmaa
open Go.RowKit

/-- where the blocks of offer k begin; whose block e is -/
def oN (m : Nat → Nat) : Nat → Nat
  | 0 => 0
  | k + 1 => oN m k + m k
def own (m : Nat → Nat) : Nat → Nat → Nat
  | 0, _ => 0
  | n + 1, e => if oN m n ≤ e then n else own m n e
theorem oN_mono {m : Nat → Nat} {a b : Nat} (h : a ≤ b) : oN m a ≤ oN m b := by
  induction b with
  | zero => obtain rfl : a = 0 := by omega
            exact Nat.le_refl _
  | succ b ih =>
    rcases Nat.eq_or_lt_of_le h with rfl | hlt
    · exact Nat.le_refl _
    · have := ih (by omega)
      show _ ≤ oN m b + m b
      omega
theorem own_at {m : Nat → Nat} {k j : Nat} (hj : j < m k) : ∀ {n : Nat}, k < n → own m n (oN m k + j) = k
  | n + 1, h => by
    simp only [own]
    rcases Nat.lt_succ_iff_lt_or_eq.1 h with hlt | rfl
    · have := oN_mono (m := m) (a := k + 1) (b := n) hlt
      simp only [oN] at this
      rw [if_neg (by omega), own_at hj hlt]
    · rw [if_pos (Nat.le_add_right _ _)]
theorem own_spec {m : Nat → Nat} {e : Nat} : ∀ {n : Nat}, e < oN m n → own m n e < n ∧ oN m (own m n e) ≤ e ∧ e < oN m (own m n e) + m (own m n e)
  | 0, h => absurd h (Nat.not_lt_zero _)
  | n + 1, h => by
    simp only [own]
    split
    · rename_i h1
      exact ⟨Nat.lt_succ_self _, h1, h⟩
    · rename_i h1
      have := own_spec (m := m) (e := e) (n := n) (by omega)
      omega
theorem S_add (f : Nat → Int) (a : Nat) : ∀ b, S f (a + b) = S f a + S (fun j => f (a + j)) b
  | 0 => by simp [S]
  | b + 1 => by
    rw [← Nat.add_assoc]
    simp only [S]
    rw [S_add f a b]
    omega
theorem S_flat (f : Nat → Int) (m : Nat → Nat) : ∀ n, S f (oN m n) = S (fun k => S (fun j => f (oN m k + j)) (m k)) n
  | 0 => rfl
  | n + 1 => by
    simp only [oN, S]
    rw [S_add, S_flat f m n]
theorem S_zero {f : Nat → Int} : ∀ {n : Nat}, (∀ k, k < n → f k = 0) → S f n = 0
  | 0, _ => rfl
  | n + 1, h => by
    simp only [S]
    rw [S_zero fun k hk => h k (by omega), h n (by omega)]
    rfl
/-- only one of the summands is not 0 -/
theorem S_one {f : Nat → Int} {k : Nat} : ∀ {n : Nat}, k < n → (∀ i, i < n → i ≠ k → f i = 0) → S f n = f k
  | n + 1, h, h0 => by
    simp only [S]
    rcases Nat.lt_succ_iff_lt_or_eq.1 h with hlt | rfl
    · rw [S_one hlt fun i hi => h0 i (by omega), h0 n (by omega) (by omega)]
      omega
    · rw [S_zero fun i hi => h0 i (by omega) (by omega)]
      omega

/-- an offer of which the first J blocks and r units of block J are taken -/
def flA (p : Nat → Int) (J : Nat) (r : Int) (j : Nat) : Int := if j < J then p j else if j = J then r else 0
structure FlOk (m : Nat) (p : Nat → Int) (J : Nat) (r : Int) : Prop where
  le : J ≤ m
  nn : 0 ≤ r
  lt : J < m → r < p J
  end' : J = m → r = 0
theorem fl_sum {m J : Nat} {p : Nat → Int} {r : Int} (h : FlOk m p J r) : S (flA p J r) m = S p J + r := by
  have key : ∀ i, i ≤ m → S (flA p J r) i = if i ≤ J then S p i else S p J + r := by
    intro i
    induction i with
    | zero => intro _; rw [if_pos (Nat.zero_le _)]; rfl
    | succ i ih =>
      intro hi
      have h1 := ih (by omega)
      simp only [S, flA]
      rw [h1]
      rcases Nat.lt_trichotomy i J with hlt | rfl | hlt
      · rw [if_pos (by omega), if_pos hlt, if_pos (by omega)]
      · rw [if_pos (Nat.le_refl _), if_neg (Nat.lt_irrefl _), if_pos rfl, if_neg (by omega)]
      · rw [if_neg (by omega), if_neg (by omega), if_neg (by omega), if_neg (by omega)]
        omega
  rw [key m (Nat.le_refl _)]
  split
  · rename_i h1
    have := h.le
    obtain rfl : J = m := by omega
    rw [h.end' rfl]
    omega
  · rfl
theorem S_step {p : Nat → Int} {m a b : Nat} (hp : ∀ j, j < m → 1 ≤ p j) (h : a < b) (hb : b ≤ m) : S p a + p a ≤ S p b :=
  S_mono (p := p) (i := a + 1) (j := b) (fun k hk => by have := hp k (by omega); omega) h
theorem fl_ct {m J j : Nat} {p q : Nat → Int} {r : Int} (hp : ∀ j, j < m → 1 ≤ p j) (h : FlOk m p J r) (hj : j < m) : ct p q (S p J + r) j = flA p J r j * q j := by
  unfold ct flA
  have h0 := h.nn
  have hpj := hp j hj
  congr 1
  rcases Nat.lt_trichotomy j J with hlt | rfl | hlt
  · have := S_step hp hlt h.le
    rw [if_pos hlt]
    omega
  · have := h.lt hj
    rw [if_neg (Nat.lt_irrefl _), if_pos rfl]
    omega
  · have h1 := S_step hp hlt (Nat.le_of_lt hj)
    have h2 := h.lt (by omega)
    rw [if_neg (by omega), if_neg (by omega)]
    omega
theorem fl_U {m J : Nat} {p q : Nat → Int} {r : Int} (hp : ∀ j, j < m → 1 ≤ p j) (h : FlOk m p J r) : U p q m (S p J + r) = if J < m then q J else 2000000 := by
  have h0 := h.nn
  have h1 : ∀ j, j < J → S p (j + 1) ≤ S p J + r := fun j hj => by
    have := S_step hp hj h.le
    simp only [S]
    omega
  split
  · rename_i hlt
    have := h.lt hlt
    exact U_at h1 (by simp only [S]; omega) hlt
  · rename_i hlt
    have := h.le
    exact U_none fun j hj => h1 j (by omega)
/-- what holds for the first ones only -/
theorem down (P : Nat → Prop) [DecidablePred P] : ∀ m, (∀ j, j + 1 < m → P (j + 1) → P j) → ∃ J, J ≤ m ∧ ∀ j, j < m → (P j ↔ j < J)
  | 0, _ => ⟨0, Nat.le_refl _, fun j hj => absurd hj (Nat.not_lt_zero _)⟩
  | m + 1, h => by
    obtain ⟨J, hJ, hP⟩ := down P m fun j hj => h j (by omega)
    by_cases hm : P m
    · refine ⟨m + 1, Nat.le_refl _, fun j hj => ⟨fun _ => hj, fun _ => ?_⟩⟩
      have back : ∀ d, d ≤ m → P (m - d) := by
        intro d
        induction d with
        | zero => intro _; exact hm
        | succ d ih =>
          intro hd
          have h1 := ih (by omega)
          refine h (m - (d + 1)) (by omega) ?_
          rw [show m - (d + 1) + 1 = m - d by omega]
          exact h1
      have := back (m - j) (by omega)
      rwa [show m - (m - j) = j by omega] at this
    · refine ⟨J, by omega, fun j hj => ?_⟩
      rcases Nat.lt_succ_iff_lt_or_eq.1 hj with hlt | rfl
      · exact hP j hlt
      · exact ⟨fun h1 => absurd h1 hm, fun h1 => by omega⟩
end Go.Proofs.Ytkkkldhilofgmaa
