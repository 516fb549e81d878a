/-
  Orders by keys, stable or not.
-/
import Derived.Test.YtemfikdogdadnaaSrtP
namespace Go.Proofs.Ytemfikdogdadnaa
open Go.RowKit

/-- an order by keys, whatever it does with equal ones -/
structure Wk (key : Nat → Int) (q : Nat → Nat) (n : Nat) : Prop where
  le' : ∀ i j, i ≤ j → j < n → key (q i) ≤ key (q j)
  lt' : ∀ k, k < n → q k < n
  inj' : ∀ i j, i < n → j < n → q i = q j → i = j
  onto' : ∀ i, i < n → ∃ k, k < n ∧ q k = i
section
variable {key : Nat → Int} {q : Nat → Nat} {n : Nat}
theorem Wk.le (h : Wk key q n) {i j : Nat} (hij : i ≤ j) (hj : j < n) : key (q i) ≤ key (q j) := h.le' i j hij hj
theorem Wk.lt (h : Wk key q n) {k : Nat} (hk : k < n) : q k < n := h.lt' k hk
theorem Wk.inj (h : Wk key q n) {i j : Nat} (hi : i < n) (hj : j < n) (e : q i = q j) : i = j := h.inj' i j hi hj e
theorem Wk.onto (h : Wk key q n) {i : Nat} (hi : i < n) : ∃ k, k < n ∧ q k = i := h.onto' i hi
theorem Wk.sum (h : Wk key q n) (f : Nat → Int) : S (fun k => f (q k)) n = S f n := S_perm f n q (fun _ hk => h.lt hk) (fun _ _ hi hj e => h.inj hi hj e) (fun _ hi => h.onto hi)
theorem Sorted.wk (h : Sorted key q n) : Wk key q n := ⟨fun _ _ hij hj => h.le hij hj, fun _ hk => h.lt hk, fun _ _ hi hj e => h.inj hi hj e, fun _ hi => h.onto hi⟩
end
end Go.Proofs.Ytemfikdogdadnaa
