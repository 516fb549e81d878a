/-
  Sorting messages by their points' names: slices.SortFunc with telemetry's comparison.
-/
import Derived.Lib.Bytealg
import Derived.Lib.Walk
import Derived.Test.YtkkkldhilofgmaaSfP
import Derived.Test.YtkkkldhilofgmaaSfLTel
import Derived.Test.YtkkkldhilofgmaaTelV
namespace Go.Proofs.Ytkkkldhilofgmaa
open Go.RowKit Go.Sort Go.Proofs

abbrev cB2 (a b : List UInt8) : Int := Go.Lib.compareBytes a b
theorem cb_self : ∀ a : List UInt8, cB2 a a = 0
  | [] => rfl
  | a :: ar => by
    have h : ¬ a < a := by simp
    show (if a < a then (-1 : Int) else if a < a then 1 else cB2 ar ar) = 0
    rw [if_neg h, if_neg h, cb_self ar]
theorem cb_trans : ∀ a b c : List UInt8, cB2 a b < 0 → cB2 b c < 0 → cB2 a c < 0
  | [], [], _, h, _ => absurd h (by decide)
  | _ :: _, [], _, h, _ => absurd h (show ¬ (1 : Int) < 0 by decide)
  | [], _ :: _, [], _, h => absurd h (show ¬ (1 : Int) < 0 by decide)
  | [], _ :: _, _ :: _, _, _ => show (-1 : Int) < 0 by decide
  | _ :: _, _ :: _, [], _, h => absurd h (show ¬ (1 : Int) < 0 by decide)
  | a :: ar, b :: bs, c :: cs, h1, h2 => by
    have h1 : (if a < b then (-1 : Int) else if b < a then 1 else cB2 ar bs) < 0 := h1
    have h2 : (if b < c then (-1 : Int) else if c < b then 1 else cB2 bs cs) < 0 := h2
    show (if a < c then (-1 : Int) else if c < a then 1 else cB2 ar cs) < 0
    have ih := cb_trans ar bs cs
    simp only [UInt8.lt_iff_toNat_lt] at *
    (repeat' split at h1) <;> (repeat' split at h2) <;> (repeat' split) <;> first | omega | exact ih h1 h2
theorem cb_ntrans : ∀ a b c : List UInt8, ¬ cB2 a b < 0 → ¬ cB2 b c < 0 → ¬ cB2 a c < 0
  | [], [], c, _, h => h
  | [], _ :: _, _, h, _ => absurd (show (-1 : Int) < 0 by decide) h
  | _ :: _, _, [], _, _ => show ¬ (1 : Int) < 0 by decide
  | _ :: _, [], _ :: _, _, h => absurd (show (-1 : Int) < 0 by decide) h
  | a :: ar, b :: bs, c :: cs, h1, h2 => by
    have h1 : ¬ (if a < b then (-1 : Int) else if b < a then 1 else cB2 ar bs) < 0 := h1
    have h2 : ¬ (if b < c then (-1 : Int) else if c < b then 1 else cB2 bs cs) < 0 := h2
    show ¬ (if a < c then (-1 : Int) else if c < a then 1 else cB2 ar cs) < 0
    have ih := cb_ntrans ar bs cs
    simp only [UInt8.lt_iff_toNat_lt] at *
    (repeat' split at h1) <;> (repeat' split at h2) <;> (repeat' split) <;> first | omega | exact ih h1 h2
theorem S_leS {f g : Nat → Int} : ∀ {n : Nat}, (∀ k, k < n → f k ≤ g k) → S f n ≤ S g n
  | 0, _ => Int.le_refl _
  | n + 1, h => by
    have := S_leS fun i hi => h i (Nat.lt_succ_of_lt hi)
    have := h n (Nat.lt_succ_self n)
    show S f n + f n ≤ S g n + g n
    omega
theorem S_lt {f g : Nat → Int} : ∀ {n : Nat}, (∀ k, k < n → f k ≤ g k) → (∃ k, k < n ∧ f k < g k) → S f n < S g n
  | 0, _, ⟨k, hk, _⟩ => absurd hk (Nat.not_lt_zero k)
  | n + 1, h, ⟨k, hk, h2⟩ => by
    have h1 := h n (Nat.lt_succ_self n)
    show S f n + f n < S g n + g n
    by_cases e : k = n
    · subst e
      have := S_leS fun i hi => h i (Nat.lt_succ_of_lt hi)
      omega
    · have := S_lt (n := n) (fun i hi => h i (by omega)) ⟨k, by omega, h2⟩
      omega

set_option maxHeartbeats 1000000 in
set_option maxRecDepth 100000 in
theorem telStr (a b : ByteArray) (w : World) : Calls Try.prog 117 #[.string a, .string b] w fun e w' => e = .returned (.int .i64 (cB2 a.data.toList b.data.toList)) ∧ w' = w := by
  go_enter Try.func117, Try.ntmps117
  go_wp2
  rw [run_callFunc_extern Try.func140 (by kernel_rfl) (by kernel_rfl) (by kernel_rfl) (e := Extern.BytealgCompare.compare) (by kernel_rfl), Go.Lib.run_compareString]
  simp only [Result.andThen]
  rw [Oper.upon_value]
  go_wp2
  go_ret
  exact ⟨rfl, rfl⟩
set_option maxHeartbeats 1000000 in
set_option maxRecDepth 100000 in
theorem telCmpS (a b : ByteArray) (w : World) : Calls Try.prog 97 #[.string a, .string b] w fun e w' => e = .returned (.int .i64 (cB2 a.data.toList b.data.toList)) ∧ w' = w := by
  have e1 : ∀ args w, (callFunc 117 args).run Try.prog w = .ok (.enter 117 args) w := enters_of Try.func117 (by kernel_rfl) rfl
  go_enter Try.func97, Try.ntmps97
  go_wp2_with (go_at_fn 117; refine (telStr _ _ _).mono ?_; rintro e w' ⟨rfl, rfl⟩)
  go_ret
  exact ⟨rfl, rfl⟩
set_option maxHeartbeats 1000000 in
set_option maxRecDepth 100000 in
theorem telCmp (s : ByteArray) (a b c : Int) (s' : ByteArray) (a' b' c' : Int) (W : World) : Calls Try.prog 96 #[.agg #[.string s, .int .i64 a, .int .i64 b, .int .i64 c], .agg #[.string s', .int .i64 a', .int .i64 b', .int .i64 c']] W fun e w' => e = .returned (.int .i64 (cB2 s.data.toList s'.data.toList)) ∧ ∃ q os', w' = grow (W.drewN q) os' := by
  have e1 : ∀ args w, (callFunc 97 args).run Try.prog w = .ok (.enter 97 args) w := enters_of Try.func97 (by kernel_rfl) rfl
  go_enter Try.func96, Try.ntmps96
  go_wp2_with (go_at_fn 97; refine (telCmpS _ _ _).mono ?_; rintro e w' ⟨rfl, rfl⟩)
  go_ret
  exact ⟨rfl, 0, _, by rw [alloc_eq_grow, alloc_eq_grow, grow_grow]; rfl⟩
end Go.Proofs.Ytkkkldhilofgmaa
