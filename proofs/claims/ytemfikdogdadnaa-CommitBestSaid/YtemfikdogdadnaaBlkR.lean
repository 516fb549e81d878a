/-
  What all offers give together.
-/
import Derived.Test.YtemfikdogdadnaaBlkQ
namespace Go.Proofs.Ytemfikdogdadnaa
open Go.RowKit

theorem S_plus2 (f g : Nat → Int) : ∀ n, S (fun i => f i + g i) n = S f n + S g n
  | 0 => rfl
  | n + 1 => by
    have := S_plus2 f g n
    simp only [S] at *
    omega
theorem bX_all {m : Nat → Nat} {p q : Nat → Nat → Int} {n : Nat} {π : Nat → Nat} (h : Blks2 m p q n π) (T : Int) : ∀ b, b ≤ oN m n → S (fun k => bX m p n π T k b) n = min T (bCum m p n π b) - min T 0
  | 0, _ => by
    rw [S_zero (f := fun k => bX m p n π T k 0) fun k _ => rfl]
    have e0 : bCum m p n π 0 = 0 := rfl
    rw [e0]
    omega
  | b + 1, hb => by
    have ih := bX_all h T b (by omega)
    have ho := (own_spec (h.srt.lt (k := b) (by omega))).1
    have e : S (fun k => bX m p n π T k (b + 1)) n = S (fun k => bX m p n π T k b + (if own m n (π b) = k then bTk m p n π T b else 0)) n := rfl
    rw [e, S_plus2, ih, S_one ho fun i _ hne => if_neg (fun e => hne e.symm), if_pos rfl]
    unfold bTk
    omega
theorem bX_sum {m : Nat → Nat} {p q : Nat → Nat → Int} {n : Nat} {π : Nat → Nat} (h : Blks2 m p q n π) {T : Int} (h0 : 0 ≤ T) (h1 : T ≤ S (fun k => S (p k) (m k)) n) : S (fun k => bX m p n π T k (oN m n)) n = T := by
  rw [bX_all h T _ (Nat.le_refl _), h.cum_all]
  omega
theorem S_nil {f : Nat → Int} : ∀ {n : Nat}, (∀ k, k < n → 0 ≤ f k) → S f n = 0 → ∀ k, k < n → f k = 0
  | 0, _, _, k, hk => absurd hk (Nat.not_lt_zero _)
  | n + 1, h, e, k, hk => by
    have h1 := S_mono (p := f) (i := 0) (j := n) (fun k hk => h k (by omega)) (Nat.zero_le _)
    have h2 := h n (by omega)
    have h3 : S f 0 = 0 := rfl
    have h4 : S f (n + 1) = S f n + f n := rfl
    rcases Nat.lt_succ_iff_lt_or_eq.1 hk with hlt | rfl
    · exact S_nil (fun k hk => h k (by omega)) (by omega) k hlt
    · omega
/-- the first one of the cheapest ones that have room -/
def amC (R : Nat → Prop) [DecidablePred R] (f : Nat → Int) : Nat → Int
  | 0 => -1
  | i + 1 => if R i ∧ (amC R f i < 0 ∨ f i < f (amC R f i).toNat) then i else amC R f i
theorem amC_b (R : Nat → Prop) [DecidablePred R] (f : Nat → Int) : ∀ i, -1 ≤ amC R f i ∧ amC R f i < i
  | 0 => ⟨Int.le_refl _, show (-1 : Int) < ((0 : Nat) : Int) by decide⟩
  | i + 1 => by
    have := amC_b R f i
    simp only [amC]
    split <;> omega
theorem amC_none {R : Nat → Prop} [DecidablePred R] {f : Nat → Int} : ∀ {n : Nat}, (∀ k, k < n → ¬ R k) → amC R f n = -1
  | 0, _ => rfl
  | n + 1, h => by
    simp only [amC]
    rw [if_neg (fun hh => h n (by omega) hh.1)]
    exact amC_none fun k hk => h k (by omega)
theorem amC_eq {R : Nat → Prop} [DecidablePred R] {f : Nat → Int} {k0 n : Nat} (hR : R k0) (h : ∀ k, k < n → R k → f k0 ≤ f k ∧ (k < k0 → f k0 < f k)) (hk : k0 < n) : amC R f n = k0 := by
  have hwho : ∀ i, i ≤ n → 0 ≤ amC R f i → R (amC R f i).toNat := fun i => by
    induction i with
    | zero => intro _ hh; exact absurd hh (by show ¬ (0 : Int) ≤ -1; decide)
    | succ i ih =>
      intro hi hh
      simp only [amC] at hh ⊢
      split
      · rename_i hc; rw [Int.toNat_natCast]; exact hc.1
      · rename_i hc; rw [if_neg hc] at hh; exact ih (by omega) hh
  have key : ∀ i, i ≤ n → k0 < i → amC R f i = k0 := by
    intro i
    induction i with
    | zero => intro _ h1; exact absurd h1 (Nat.not_lt_zero _)
    | succ i ih =>
      intro hi h1
      simp only [amC]
      rcases Nat.lt_succ_iff_lt_or_eq.1 h1 with hlt | rfl
      · have e := ih (by omega) hlt
        rw [if_neg]
        · exact e
        · rintro ⟨hRi, hh⟩
          have := (h i (by omega) hRi).1
          rw [e, Int.toNat_natCast] at hh
          omega
      · rw [if_pos]
        refine ⟨hR, ?_⟩
        have hb := amC_b R f k0
        rcases Int.lt_or_le (amC R f k0) 0 with h2 | h2
        · exact .inl h2
        · have h3 := hwho k0 (by omega) h2
          exact .inr ((h _ (by omega) h3).2 (by omega))
  exact key n (Nat.le_refl _) hk
end Go.Proofs.Ytemfikdogdadnaa
