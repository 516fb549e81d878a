/-
  Every row has an order.
-/
import Derived.Test.YtemfikdogdadnaaBlkQ
namespace Go.Proofs.Ytemfikdogdadnaa
open Go.RowKit

theorem sorted_upTo (key : Nat → Int) : ∀ i, ∃ p, Asc key p 0 i ∧ Rea id p 0 i
  | 0 => ⟨id, Asc.short (by omega), Rea.refl _ _ _⟩
  | i + 1 => by
    obtain ⟨p, ha, hr⟩ := sorted_upTo key i
    have hpi : p i = i := hr.out i (.inr (Nat.le_refl _))
    have hlt : ∀ k, k < i → p k < i := fun k hk => by
      obtain ⟨z, _, h2, e⟩ := hr.fwd k (Nat.zero_le _) hk
      rw [e]
      exact h2
    have hd : ∀ k, Decidable (sLt key (p k) (p i)) := fun k => by unfold sLt; infer_instance
    obtain ⟨j, j1, j2⟩ := down (fun k => sLt key (p k) (p i)) i fun k hk h => (ha k (k + 1) (Nat.zero_le _) (by omega) (by omega)).trans h
    refine ⟨fun k => p (inI j i k), asc_in ha (Nat.zero_le _) j1 (fun k _ hk => (j2 k (by omega)).2 hk) (fun k hk hki => ?_), (hr.wide (Nat.le_refl _) (by omega)).trans (rea_in p (Nat.zero_le _) j1 (Nat.lt_succ_self i))⟩
    have h1 : ¬ sLt key (p k) (p i) := fun h => by have := (j2 k hki).1 h; omega
    have h2 := hlt k hki
    unfold sLt at h1 ⊢
    rw [hpi] at h1 ⊢
    omega
theorem sorted_ex (key : Nat → Int) (n : Nat) : ∃ π, Sorted key π n := by
  obtain ⟨p, ha, hr⟩ := sorted_upTo key n
  exact ⟨p, ha, hr⟩
end Go.Proofs.Ytemfikdogdadnaa
