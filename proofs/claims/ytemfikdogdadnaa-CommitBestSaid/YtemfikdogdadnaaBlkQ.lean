/-
  Blocks of offers in the order of their prices: what is taken of each offer when T units are taken, the next unit, and the cost.
-/
import Derived.Test.YtemfikdogdadnaaSrtP
import Derived.Test.YtemfikdogdadnaaOff2
namespace Go.Proofs.Ytemfikdogdadnaa
open Go.RowKit

/-- where the blocks of offer k begin; whose block e is -/
def oN (m : Nat → Nat) : Nat → Nat
  | 0 => 0
  | k + 1 => oN m k + m k
def own (m : Nat → Nat) : Nat → Nat → Nat
  | 0, _ => 0
  | n + 1, e => if oN m n ≤ e then n else own m n e
theorem oN_mono {m : Nat → Nat} {a b : Nat} (h : a ≤ b) : oN m a ≤ oN m b := by
  induction b with
  | zero => obtain rfl : a = 0 := by omega
            exact Nat.le_refl _
  | succ b ih =>
    rcases Nat.eq_or_lt_of_le h with rfl | hlt
    · exact Nat.le_refl _
    · have := ih (by omega)
      show _ ≤ oN m b + m b
      omega
theorem own_at {m : Nat → Nat} {k j : Nat} (hj : j < m k) : ∀ {n : Nat}, k < n → own m n (oN m k + j) = k
  | n + 1, h => by
    simp only [own]
    rcases Nat.lt_succ_iff_lt_or_eq.1 h with hlt | rfl
    · have := oN_mono (m := m) (a := k + 1) (b := n) hlt
      simp only [oN] at this
      rw [if_neg (by omega), own_at hj hlt]
    · rw [if_pos (Nat.le_add_right _ _)]
theorem own_spec {m : Nat → Nat} {e : Nat} : ∀ {n : Nat}, e < oN m n → own m n e < n ∧ oN m (own m n e) ≤ e ∧ e < oN m (own m n e) + m (own m n e)
  | 0, h => absurd h (Nat.not_lt_zero _)
  | n + 1, h => by
    simp only [own]
    split
    · rename_i h1
      exact ⟨Nat.lt_succ_self _, h1, h⟩
    · rename_i h1
      have := own_spec (m := m) (e := e) (n := n) (by omega)
      omega
theorem S_add (f : Nat → Int) (a : Nat) : ∀ b, S f (a + b) = S f a + S (fun j => f (a + j)) b
  | 0 => by simp [S]
  | b + 1 => by
    rw [← Nat.add_assoc]
    simp only [S]
    rw [S_add f a b]
    omega
theorem S_flat (f : Nat → Int) (m : Nat → Nat) : ∀ n, S f (oN m n) = S (fun k => S (fun j => f (oN m k + j)) (m k)) n
  | 0 => rfl
  | n + 1 => by
    simp only [oN, S]
    rw [S_add, S_flat f m n]
theorem S_zero {f : Nat → Int} : ∀ {n : Nat}, (∀ k, k < n → f k = 0) → S f n = 0
  | 0, _ => rfl
  | n + 1, h => by
    simp only [S]
    rw [S_zero fun k hk => h k (by omega), h n (by omega)]
    rfl
/-- only one of the summands is not 0 -/
theorem S_one {f : Nat → Int} {k : Nat} : ∀ {n : Nat}, k < n → (∀ i, i < n → i ≠ k → f i = 0) → S f n = f k
  | n + 1, h, h0 => by
    simp only [S]
    rcases Nat.lt_succ_iff_lt_or_eq.1 h with hlt | rfl
    · rw [S_one hlt fun i hi => h0 i (by omega), h0 n (by omega) (by omega)]
      omega
    · rw [S_zero fun i hi => h0 i (by omega) (by omega)]
      omega

/-- an offer of which the first J blocks and r units of block J are taken -/
def flA (p : Nat → Int) (J : Nat) (r : Int) (j : Nat) : Int := if j < J then p j else if j = J then r else 0
structure FlOk (m : Nat) (p : Nat → Int) (J : Nat) (r : Int) : Prop where
  le : J ≤ m
  nn : 0 ≤ r
  lt : J < m → r < p J
  end' : J = m → r = 0
theorem fl_sum {m J : Nat} {p : Nat → Int} {r : Int} (h : FlOk m p J r) : S (flA p J r) m = S p J + r := by
  have key : ∀ i, i ≤ m → S (flA p J r) i = if i ≤ J then S p i else S p J + r := by
    intro i
    induction i with
    | zero => intro _; rw [if_pos (Nat.zero_le _)]; rfl
    | succ i ih =>
      intro hi
      have h1 := ih (by omega)
      simp only [S, flA]
      rw [h1]
      rcases Nat.lt_trichotomy i J with hlt | rfl | hlt
      · rw [if_pos (by omega), if_pos hlt, if_pos (by omega)]
      · rw [if_pos (Nat.le_refl _), if_neg (Nat.lt_irrefl _), if_pos rfl, if_neg (by omega)]
      · rw [if_neg (by omega), if_neg (by omega), if_neg (by omega), if_neg (by omega)]
        omega
  rw [key m (Nat.le_refl _)]
  split
  · rename_i h1
    have := h.le
    obtain rfl : J = m := by omega
    rw [h.end' rfl]
    omega
  · rfl
theorem S_step {p : Nat → Int} {m a b : Nat} (hp : ∀ j, j < m → 1 ≤ p j) (h : a < b) (hb : b ≤ m) : S p a + p a ≤ S p b :=
  S_mono (p := p) (i := a + 1) (j := b) (fun k hk => by have := hp k (by omega); omega) h
theorem fl_ct {m J j : Nat} {p q : Nat → Int} {r : Int} (hp : ∀ j, j < m → 1 ≤ p j) (h : FlOk m p J r) (hj : j < m) : ct p q (S p J + r) j = flA p J r j * q j := by
  unfold ct flA
  have h0 := h.nn
  have hpj := hp j hj
  congr 1
  rcases Nat.lt_trichotomy j J with hlt | rfl | hlt
  · have := S_step hp hlt h.le
    rw [if_pos hlt]
    omega
  · have := h.lt hj
    rw [if_neg (Nat.lt_irrefl _), if_pos rfl]
    omega
  · have h1 := S_step hp hlt (Nat.le_of_lt hj)
    have h2 := h.lt (by omega)
    rw [if_neg (by omega), if_neg (by omega)]
    omega
theorem fl_U {m J : Nat} {p q : Nat → Int} {r : Int} (hp : ∀ j, j < m → 1 ≤ p j) (h : FlOk m p J r) : U p q m (S p J + r) = if J < m then q J else 2000000 := by
  have h0 := h.nn
  have h1 : ∀ j, j < J → S p (j + 1) ≤ S p J + r := fun j hj => by
    have := S_step hp hj h.le
    simp only [S]
    omega
  split
  · rename_i hlt
    have := h.lt hlt
    exact U_at h1 (by simp only [S]; omega) hlt
  · rename_i hlt
    have := h.le
    exact U_none fun j hj => h1 j (by omega)
/-- what holds for the first ones only -/
theorem down (P : Nat → Prop) [DecidablePred P] : ∀ m, (∀ j, j + 1 < m → P (j + 1) → P j) → ∃ J, J ≤ m ∧ ∀ j, j < m → (P j ↔ j < J)
  | 0, _ => ⟨0, Nat.le_refl _, fun j hj => absurd hj (Nat.not_lt_zero _)⟩
  | m + 1, h => by
    obtain ⟨J, hJ, hP⟩ := down P m fun j hj => h j (by omega)
    by_cases hm : P m
    · refine ⟨m + 1, Nat.le_refl _, fun j hj => ⟨fun _ => hj, fun _ => ?_⟩⟩
      have back : ∀ d, d ≤ m → P (m - d) := by
        intro d
        induction d with
        | zero => intro _; exact hm
        | succ d ih =>
          intro hd
          have h1 := ih (by omega)
          refine h (m - (d + 1)) (by omega) ?_
          rw [show m - (d + 1) + 1 = m - d by omega]
          exact h1
      have := back (m - j) (by omega)
      rwa [show m - (m - j) = j by omega] at this
    · refine ⟨J, by omega, fun j hj => ?_⟩
      rcases Nat.lt_succ_iff_lt_or_eq.1 hj with hlt | rfl
      · exact hP j hlt
      · exact ⟨fun h1 => absurd h1 hm, fun h1 => by omega⟩
end Go.Proofs.Ytemfikdogdadnaa

namespace Go.Proofs.Ytemfikdogdadnaa
open Go.RowKit

/-- size and price of block e -/
def bSz (m : Nat → Nat) (p : Nat → Nat → Int) (n e : Nat) : Int := p (own m n e) (e - oN m (own m n e))
theorem bSz_at {m : Nat → Nat} {p : Nat → Nat → Int} {n k j : Nat} (hk : k < n) (hj : j < m k) : bSz m p n (oN m k + j) = p k j := by
  unfold bSz
  rw [own_at hj hk, Nat.add_sub_cancel_left]
/-- prices do not fall within an offer, sizes are at least 1 -/
structure Blks2 (m : Nat → Nat) (p q : Nat → Nat → Int) (n : Nat) (π : Nat → Nat) : Prop where
  up : ∀ k, k < n → ∀ j, j + 1 < m k → q k j ≤ q k (j + 1)
  pos : ∀ k, k < n → ∀ j, j < m k → 1 ≤ p k j
  cap : ∀ k, k < n → ∀ j, j < m k → q k j ≤ 1000000
  srt : Sorted (bSz m q n) π (oN m n)
/-- taken before position b; of the block at position b, when T units are taken -/
def bCum (m : Nat → Nat) (p : Nat → Nat → Int) (n : Nat) (π : Nat → Nat) (b : Nat) : Int := S (fun b => bSz m p n (π b)) b
def bTk (m : Nat → Nat) (p : Nat → Nat → Int) (n : Nat) (π : Nat → Nat) (T : Int) (b : Nat) : Int := min T (bCum m p n π (b + 1)) - min T (bCum m p n π b)
/-- what is taken of offer k from the first b positions -/
def bX (m : Nat → Nat) (p : Nat → Nat → Int) (n : Nat) (π : Nat → Nat) (T : Int) (k b : Nat) : Int := S (fun b => if own m n (π b) = k then bTk m p n π T b else 0) b

section
variable {m : Nat → Nat} {p q : Nat → Nat → Int} {n : Nat} {π : Nat → Nat}
theorem Blks2.sz_pos (h : Blks2 m p q n π) {e : Nat} (he : e < oN m n) : 1 ≤ bSz m p n e := by
  obtain ⟨h1, h2, h3⟩ := own_spec he
  exact h.pos _ h1 _ (by omega)
theorem Blks2.cum_mono (h : Blks2 m p q n π) {a b : Nat} (hab : a ≤ b) (hb : b ≤ oN m n) : bCum m p n π a ≤ bCum m p n π b :=
  S_mono (fun k hk => by have := h.sz_pos (h.srt.lt (k := k) (by omega)); omega) hab
theorem Blks2.cum_all (h : Blks2 m p q n π) : bCum m p n π (oN m n) = S (fun k => S (p k) (m k)) n := by
  unfold bCum
  rw [h.srt.sum (bSz m p n), S_flat]
  exact S_congr fun k hk => S_congr fun j hj => bSz_at hk hj
/-- the position at which T units end -/
structure bAt (m : Nat → Nat) (p : Nat → Nat → Int) (n : Nat) (π : Nat → Nat) (T : Int) (B : Nat) : Prop where
  le : B ≤ oN m n
  lo : bCum m p n π B ≤ T
  hi : B < oN m n → T < bCum m p n π (B + 1)
  fin : B = oN m n → T = bCum m p n π B
theorem Blks2.at (h : Blks2 m p q n π) {T : Int} (h0 : 0 ≤ T) (h1 : T ≤ S (fun k => S (p k) (m k)) n) : ∃ B, bAt m p n π T B := by
  have key : ∀ N, N ≤ oN m n → T ≤ bCum m p n π N → ∃ B, B ≤ N ∧ bCum m p n π B ≤ T ∧ (B < N → T < bCum m p n π (B + 1)) ∧ (B = N → T = bCum m p n π B) := by
    intro N
    induction N with
    | zero =>
      intro _ hT
      have e : bCum m p n π 0 = 0 := rfl
      exact ⟨0, Nat.le_refl _, by omega, fun h => absurd h (Nat.lt_irrefl _), fun _ => by omega⟩
    | succ N ih =>
      intro hN hT
      by_cases hc : T ≤ bCum m p n π N
      · obtain ⟨B, b1, b2, b3, b4⟩ := ih (by omega) hc
        refine ⟨B, by omega, b2, fun _ => ?_, fun e => by omega⟩
        rcases Nat.eq_or_lt_of_le b1 with rfl | hlt
        · have e := b4 rfl
          have h9 := h.sz_pos (h.srt.lt (k := B) (by omega))
          have h8 : bCum m p n π (B + 1) = bCum m p n π B + bSz m p n (π B) := rfl
          omega
        · exact b3 hlt
      · by_cases he : T = bCum m p n π (N + 1)
        · exact ⟨N + 1, Nat.le_refl _, by omega, fun h => absurd h (Nat.lt_irrefl _), fun _ => he⟩
        · exact ⟨N, by omega, by omega, fun _ => by omega, fun e => by omega⟩
  obtain ⟨B, b1, b2, b3, b4⟩ := key (oN m n) (Nat.le_refl _) (by rw [h.cum_all]; exact h1)
  exact ⟨B, b1, b2, b3, b4⟩
/-- what is taken at each position -/
theorem Blks2.tk (h : Blks2 m p q n π) {T : Int} {B : Nat} (hB : bAt m p n π T B) {b : Nat} (hb : b < oN m n) : bTk m p n π T b = if b < B then bSz m p n (π b) else if b = B then T - bCum m p n π B else 0 := by
  have e : bCum m p n π (b + 1) = bCum m p n π b + bSz m p n (π b) := rfl
  unfold bTk
  rcases Nat.lt_trichotomy b B with hlt | rfl | hlt
  · have := h.cum_mono (a := b + 1) (b := B) hlt hB.le
    have := h.cum_mono (a := b) (b := b + 1) (by omega) (by omega)
    have := hB.lo
    rw [if_pos hlt]
    omega
  · have := hB.hi hb
    have := hB.lo
    rw [if_neg (Nat.lt_irrefl _), if_pos rfl]
    omega
  · have := hB.hi (by omega)
    have := h.cum_mono (a := B + 1) (b := b) hlt (by omega)
    have := h.cum_mono (a := b) (b := b + 1) (by omega) (by omega)
    rw [if_neg (by omega), if_neg (by omega)]
    omega
theorem Blks2.upTo (h : Blks2 m p q n π) {k : Nat} (hk : k < n) {i j : Nat} (hij : i ≤ j) (hj : j < m k) : q k i ≤ q k j := by
  induction j with
  | zero => obtain rfl : i = 0 := by omega
            exact Int.le_refl _
  | succ j ih =>
    rcases Nat.eq_or_lt_of_le hij with rfl | hlt
    · exact Int.le_refl _
    · exact Int.le_trans (ih (by omega) (by omega)) (h.up k hk j hj)
theorem Blks2.lt (h : Blks2 m p q n π) {k : Nat} (hk : k < n) {i j : Nat} (hij : i < j) (hj : j < m k) : sLt (bSz m q n) (oN m k + i) (oN m k + j) := by
  have := h.upTo hk (Nat.le_of_lt hij) hj
  unfold sLt
  rw [bSz_at hk (by omega), bSz_at hk hj]
  omega
/-- what is taken of block e -/
def bAm (m : Nat → Nat) (p q : Nat → Nat → Int) (n : Nat) (π : Nat → Nat) (T : Int) (B e : Nat) : Int :=
  if B = oN m n ∨ sLt (bSz m q n) e (π B) then bSz m p n e else if B < oN m n ∧ e = π B then T - bCum m p n π B else 0
theorem Blks2.am (h : Blks2 m p q n π) {T : Int} {B : Nat} (hB : bAt m p n π T B) {b : Nat} (hb : b < oN m n) : bTk m p n π T b = bAm m p q n π T B (π b) := by
  have hle := hB.le
  rw [h.tk hB hb]
  unfold bAm
  rcases Nat.lt_trichotomy b B with hlt | rfl | hlt
  · have h1 : B = oN m n ∨ sLt (bSz m q n) (π b) (π B) := by
      rcases Nat.eq_or_lt_of_le hle with e | hl
      · exact .inl e
      · exact .inr (h.srt.asc b B (Nat.zero_le _) hlt hl)
    rw [if_pos hlt, if_pos h1]
  · have h1 : ¬ (b = oN m n ∨ sLt (bSz m q n) (π b) (π b)) := fun hh => hh.elim (by omega) sLt.irr
    rw [if_neg (Nat.lt_irrefl _), if_pos rfl, if_neg h1, if_pos ⟨hb, rfl⟩]
  · have h2 := h.srt.asc B b (Nat.zero_le _) hlt hb
    have h1 : ¬ (B = oN m n ∨ sLt (bSz m q n) (π b) (π B)) := fun hh => hh.elim (by omega) fun h3 => sLt.irr (h2.trans h3)
    rw [if_neg (by omega), if_neg (by omega), if_neg h1, if_neg (fun hh => by
      have := h.srt.inj hb (by omega) hh.2
      omega)]
theorem Blks2.fill (h : Blks2 m p q n π) {T : Int} {B : Nat} (hB : bAt m p n π T B) {k : Nat} (hk : k < n) :
    ∃ J r, FlOk (m k) (p k) J r ∧ bX m p n π T k (oN m n) = S (p k) J + r ∧ (∀ j, j < m k → bAm m p q n π T B (oN m k + j) = flA (p k) J r j) ∧
      (B < oN m n → (own m n (π B) = k → π B = oN m k + J ∧ J < m k) ∧ (own m n (π B) ≠ k → J < m k → sLt (bSz m q n) (π B) (oN m k + J))) := by
  obtain ⟨J, hJ, hP⟩ := down (fun j => B = oN m n ∨ sLt (bSz m q n) (oN m k + j) (π B)) (m k) fun j hj hh => hh.imp id fun h1 => (h.lt hk (Nat.lt_succ_self j) hj).trans h1
  have hle := hB.le
  have hlo := hB.lo
  have own1 : B < oN m n → own m n (π B) = k → π B = oN m k + J ∧ J < m k := fun hlt ho => by
    obtain ⟨_, o2, o3⟩ := own_spec (h.srt.lt hlt)
    rw [ho] at o2 o3
    have hj0 : π B - oN m k < m k := by omega
    have e0 : oN m k + (π B - oN m k) = π B := by omega
    have n0 : ¬ (π B - oN m k < J) := fun hh => by
      have := (hP _ hj0).2 hh
      rw [e0] at this
      exact this.elim (by omega) sLt.irr
    have n1 : ¬ (J < π B - oN m k) := fun hh => by
      have h1 := h.lt hk hh hj0
      rw [e0] at h1
      exact absurd ((hP J (by omega)).1 (.inr h1)) (Nat.lt_irrefl _)
    omega
  refine ⟨J, if B < oN m n ∧ own m n (π B) = k then T - bCum m p n π B else 0, ?_, ?_⟩
  · refine ⟨hJ, ?_, fun hlt => ?_, fun he => ?_⟩
    · split <;> omega
    · split
      · rename_i hc
        obtain ⟨e1, _⟩ := own1 hc.1 hc.2
        have h1 := hB.hi hc.1
        have e2 : bCum m p n π (B + 1) = bCum m p n π B + bSz m p n (π B) := rfl
        rw [e1, bSz_at hk hlt] at e2
        omega
      · have := h.pos k hk J hlt
        omega
    · rw [if_neg]
      rintro ⟨h1, h2⟩
      have := (own1 h1 h2).2
      omega
  have ham : ∀ j, j < m k → bAm m p q n π T B (oN m k + j) = flA (p k) J (if B < oN m n ∧ own m n (π B) = k then T - bCum m p n π B else 0) j := fun j hj => by
    unfold bAm flA
    by_cases hlt : j < J
    · rw [if_pos ((hP j hj).2 hlt), if_pos hlt, bSz_at hk hj]
    · rw [if_neg (fun hh => hlt ((hP j hj).1 hh)), if_neg hlt]
      by_cases hc : B < oN m n ∧ own m n (π B) = k
      · obtain ⟨e1, _⟩ := own1 hc.1 hc.2
        rw [if_pos hc]
        by_cases hj2 : j = J
        · rw [if_pos hj2, if_pos ⟨hc.1, by rw [e1, hj2]⟩]
        · rw [if_neg hj2, if_neg (fun hh => hj2 (by have := hh.2; omega))]
      · rw [if_neg hc, if_neg (fun hh => hc ⟨hh.1, by rw [← hh.2]; exact own_at hj hk⟩)]
        split <;> rfl
  refine ⟨?_, ham, fun hlt => ⟨own1 hlt, fun ho hj => ?_⟩⟩
  · unfold bX
    rw [S_congr (g := fun b => (fun e => if own m n e = k then bAm m p q n π T B e else 0) (π b)) fun b hb => by dsimp only; rw [h.am hB hb],
      h.srt.sum (fun e => if own m n e = k then bAm m p q n π T B e else 0), S_flat, S_one hk fun i hi hne => S_zero fun j hj => by rw [own_at hj hi, if_neg hne]]
    rw [S_congr (g := flA (p k) J (if B < oN m n ∧ own m n (π B) = k then T - bCum m p n π B else 0)) fun j hj => by rw [own_at hj hk, if_pos rfl]; exact ham j hj]
    refine fl_sum ⟨hJ, ?_, fun hlt => ?_, fun he => ?_⟩
    · split <;> omega
    · split
      · rename_i hc
        obtain ⟨e1, _⟩ := own1 hc.1 hc.2
        have h1 := hB.hi hc.1
        have e2 : bCum m p n π (B + 1) = bCum m p n π B + bSz m p n (π B) := rfl
        rw [e1, bSz_at hk hlt] at e2
        omega
      · have := h.pos k hk J hlt
        omega
    · rw [if_neg]
      rintro ⟨h1, h2⟩
      have := (own1 h1 h2).2
      omega
  · have n1 : ¬ sLt (bSz m q n) (oN m k + J) (π B) := fun hh => absurd ((hP J hj).1 (.inr hh)) (Nat.lt_irrefl _)
    have n2 : oN m k + J ≠ π B := fun e => ho (by rw [← e]; exact own_at hj hk)
    unfold sLt at n1 ⊢
    omega
/-- the next unit is the cheapest one, and of equal ones the first -/
theorem Blks2.next (h : Blks2 m p q n π) {T : Int} {B : Nat} (hB : bAt m p n π T B) (hlt : B < oN m n) :
    own m n (π B) < n ∧ U (p (own m n (π B))) (q (own m n (π B))) (m (own m n (π B))) (bX m p n π T (own m n (π B)) (oN m n)) = bSz m q n (π B) ∧
    ∀ k, k < n → bSz m q n (π B) ≤ U (p k) (q k) (m k) (bX m p n π T k (oN m n)) ∧ (k < own m n (π B) → bSz m q n (π B) < U (p k) (q k) (m k) (bX m p n π T k (oN m n))) := by
  obtain ⟨o1, o2, o3⟩ := own_spec (h.srt.lt hlt)
  have hcap : bSz m q n (π B) ≤ 1000000 := h.cap _ o1 _ (by omega)
  have h0 : U (p (own m n (π B))) (q (own m n (π B))) (m (own m n (π B))) (bX m p n π T (own m n (π B)) (oN m n)) = bSz m q n (π B) := by
    obtain ⟨J, r, f1, f2, f3, f4⟩ := h.fill hB o1
    obtain ⟨e1, e2⟩ := (f4 hlt).1 rfl
    rw [f2, fl_U (h.pos _ o1) f1, if_pos e2]
    have := bSz_at (p := q) o1 e2
    rw [← e1] at this
    exact this.symm
  refine ⟨o1, h0, fun k hk => ?_⟩
  by_cases hc : own m n (π B) = k
  · subst hc
    rw [h0]
    exact ⟨Int.le_refl _, fun hh => absurd hh (Nat.lt_irrefl _)⟩
  · obtain ⟨J, r, f1, f2, f3, f4⟩ := h.fill hB hk
    rw [f2, fl_U (h.pos _ hk) f1]
    split
    · rename_i hJ
      have h5 := (f4 hlt).2 hc hJ
      unfold sLt at h5
      rw [bSz_at hk hJ] at h5
      refine ⟨by omega, fun hh => ?_⟩
      have := oN_mono (m := m) (a := k + 1) (b := own m n (π B)) hh
      simp only [oN] at this
      omega
    · omega
theorem Blks2.step (h : Blks2 m p q n π) {T : Int} {B : Nat} (hB : bAt m p n π T B) (hlt : B < oN m n) (k : Nat) : bX m p n π (T + 1) k (oN m n) = bX m p n π T k (oN m n) + (if own m n (π B) = k then 1 else 0) := by
  have hlo := hB.lo
  have hhi := hB.hi hlt
  unfold bX
  have e : ∀ b, b < oN m n → b ≠ B → bTk m p n π (T + 1) b = bTk m p n π T b := fun b hb hne => by
    unfold bTk
    have h3 := h.cum_mono (a := b) (b := b + 1) (by omega) (by omega)
    rcases Nat.lt_or_ge b B with h1 | h1
    · have h2 := h.cum_mono (a := b + 1) (b := B) h1 hB.le
      omega
    · have h2 := h.cum_mono (a := B + 1) (b := b) (by omega) (by omega)
      omega
  have e1 : bTk m p n π (T + 1) B = bTk m p n π T B + 1 := by unfold bTk; omega
  have g1 : S (fun b => if own m n (π b) = k then bTk m p n π (T + 1) b else 0) (oN m n) = S (fun b => if b = B then (if own m n (π B) = k then bTk m p n π (T + 1) B else 0) else (if own m n (π b) = k then bTk m p n π T b else 0)) (oN m n) := S_congr fun b hb => by
    by_cases hbB : b = B
    · rw [if_pos hbB, hbB]
    · rw [if_neg hbB, e b hb hbB]
  rw [g1, S_chg (f := fun b => if own m n (π b) = k then bTk m p n π T b else 0) (j := B) fun b hb => if_neg hb, if_pos hlt, if_pos rfl, e1]
  split <;> omega
theorem Blks2.cost (h : Blks2 m p q n π) {T : Int} {B : Nat} (hB : bAt m p n π T B) : S (fun b => bTk m p n π T b * bSz m q n (π b)) (oN m n) = S (fun k => S (ct (p k) (q k) (bX m p n π T k (oN m n))) (m k)) n := by
  rw [S_congr (g := fun b => (fun e => bAm m p q n π T B e * bSz m q n e) (π b)) fun b hb => by dsimp only; rw [h.am hB hb], h.srt.sum (fun e => bAm m p q n π T B e * bSz m q n e), S_flat]
  refine S_congr fun k hk => S_congr fun j hj => ?_
  obtain ⟨J, r, f1, f2, f3, _⟩ := h.fill hB hk
  rw [f2, fl_ct (h.pos k hk) f1 hj, f3 j hj, bSz_at hk hj]
theorem Blks2.none (h : Blks2 m p q n π) (k : Nat) : bX m p n π 0 k (oN m n) = 0 := S_zero fun b hb => by
  have h1 := h.cum_mono (a := 0) (b := b) (Nat.zero_le _) (by omega)
  have h2 := h.cum_mono (a := 0) (b := b + 1) (Nat.zero_le _) (by omega)
  have h3 : bCum m p n π 0 = 0 := rfl
  split
  · unfold bTk; omega
  · rfl
end
end Go.Proofs.Ytemfikdogdadnaa
