/-
  Small helpers for walks: how a state is looked at, rows that grow by one element.
-/
import Derived.Test.YtjfnhehjhicnoaaDoorVmTy
namespace Go.Proofs.YtjfnhehjhicnoaaDoor
open Go.RowKit

/-- the slots first: they tell which objects are meant -/
theorem Sub.of {π : List Nat} {S S' : AS} (h3 : SubFr π S.fr S'.obs.length S'.fr) (h2 : SubOb π S'.obs.length S.obs π S'.obs) (h1 : nodupB π = true) : Sub π S S' := ⟨h1, h2, h3⟩
theorem app1 {n sz : Nat} {F f g h : Nat → Nat → L} (hF : ∀ a b, F a b = if a < n then f a b else g (a - n) b) (h1 : ∀ a, a < n → ∀ b, b < sz → f a b = h a b) (h2 : ∀ b, b < sz → g 0 b = h n b) : ∀ a, a < n + 1 → ∀ b, b < sz → F a b = h a b := fun a ha b hb => by
  rw [hF]
  by_cases hh : a < n
  · rw [if_pos hh]; exact h1 a hh b hb
  · obtain rfl : a = n := by omega
    rw [if_neg hh, Nat.sub_self]; exact h2 b hb
theorem all0 {sz : Nat} {p : Nat → Nat → Prop} : ∀ a, a < 0 → ∀ b, b < sz → p a b := fun a h => absurd h (Nat.not_lt_zero a)
theorem allS {n : Nat} {p : Nat → Prop} (h : ∀ b, b < n → p b) (h1 : p n) : ∀ b, b < n + 1 → p b := fun b hb => by
  rcases Nat.lt_succ_iff_lt_or_eq.1 hb with h' | rfl
  · exact h b h'
  · exact h1
theorem allN {p : Nat → Prop} : ∀ b, b < 0 → p b := fun b h => absurd h (Nat.not_lt_zero b)
theorem all1 {p : Nat → Prop} (h0 : p 0) : ∀ b, b < 1 → p b := allS allN h0
theorem all2 {p : Nat → Prop} (h0 : p 0) (h1 : p 1) : ∀ b, b < 2 → p b := allS (all1 h0) h1
theorem all3 {p : Nat → Prop} (h0 : p 0) (h1 : p 1) (h2 : p 2) : ∀ b, b < 3 → p b := allS (all2 h0 h1) h2
theorem all4 {p : Nat → Prop} (h0 : p 0) (h1 : p 1) (h2 : p 2) (h3 : p 3) : ∀ b, b < 4 → p b := allS (all3 h0 h1 h2) h3
theorem all5 {p : Nat → Prop} (h0 : p 0) (h1 : p 1) (h2 : p 2) (h3 : p 3) (h4 : p 4) : ∀ b, b < 5 → p b := allS (all4 h0 h1 h2 h3) h4
theorem allD1 {sz : Nat} {p : Nat → Nat → Prop} (h0 : ∀ b, b < sz → p 0 b) : ∀ a, a < 1 → ∀ b, b < sz → p a b := allS (fun a h => absurd h (Nat.not_lt_zero a)) h0
end Go.Proofs.YtjfnhehjhicnoaaDoor
