/-
  Sorting pieces by their slopes: slices.SortFunc with Convolve's comparison.
-/
import Derived.Test.YtkkkldhilofgmaaSfP
import Derived.Test.YtkkkldhilofgmaaSfLCvx
import Derived.Test.YtkkkldhilofgmaaCvxM
namespace Go.Proofs.Ytkkkldhilofgmaa
open Go.RowKit Go.Sort Go.Proofs

theorem cvxCmp (a b c d : Int) (W : World) : Calls Try.prog 71 #[.agg #[.int .i64 a, .int .i64 b], .agg #[.int .i64 c, .int .i64 d]] W fun e w' => e = .returned (.int .i64 (wrap64 (b - d))) ∧ ∃ q os', w' = grow (W.drewN q) os' := by
  go_enter Try.func71, Try.ntmps71
  go_wp2
  go_ret
  exact ⟨rfl, 0, _, by rw [alloc_eq_grow, alloc_eq_grow, grow_grow]; rfl⟩
/-- the slope of an element; beyond the row 0 -/
def sfK (n : Nat) (q : Nat → Int) (i : Nat) : Int := if i < n then q i else 0
theorem sf_enc (n : Nat) (p q : Nat → Int) (i : Nat) : sfEnc 2 n (fun _ => .int .i64 0) (cX p q) i = [.int .i64 (if i < n then p i else 0), .int .i64 (sfK n q i)] := by
  unfold sfEnc sfK
  by_cases h : i < n
  · simp [h, List.range_succ, cX, cellV, iL]
  · simp [h, List.range_succ]
theorem sfSwo (n : Nat) (q : Nat → Int) : SWO (ltOf fun x y => sfK n q x - sfK n q y) where
  irrefl x := by simp [ltOf]
  trans x y z h1 h2 := by simp [ltOf] at *; omega
  ntrans x y z h1 h2 := by simp [ltOf] at *; omega
theorem sortCvx (n : Nat) (p q : Nat → Int) (hn : n ≤ 1000) (hq : ∀ i, i < n → -10000000 ≤ q i ∧ q i ≤ 10000000) : FnM Try.prog 70 [rowX n p q] [.own 0, .fn 71 []] (fun obs r => ∃ π, Wk q π n ∧ obs = [.row 47 2 n true fun i j => cX p q (π i) j] ∧ r = .tup []) := by
  have hb : ∀ i, -10000000 ≤ sfK n q i ∧ sfK n q i ≤ 10000000 := fun i => by
    unfold sfK
    split
    · rename_i h; exact hq i h
    · omega
  refine sf_bridge (z := fun _ => .int .i64 0) (cf := fun x y => sfK n q x - sfK n q y) ⟨_, Try.func70, by decide, rfl⟩ (scX p q) (fun x y hx hy => ?_) (fun P cap fv w => AnyF.slices_SortFunc_none sfCvx P cap fv w) fun b cap w hH hbw h1 => ?_
  · unfold sfK
    rw [if_pos hx, if_pos hy]
    omega
  · refine AnyQ.slices_SortFunc sfCvx 2 Try.isAgg47 Try.sizeOf47 (sfEnc 2 n (fun _ => .int .i64 0) (cX p q)) (sfEnc_len _ _ _ _) (fun x v hv => ?_) (fun x y => sfK n q x - sfK n q y) (sfSwo n q) 71 #[] b 0 cap (Array.range n) w (enters_of Try.func71 (by kernel_rfl) rfl) (fun m os dk hs x y => ?_) hH hbw (by simp; omega)
    · rw [sf_enc] at hv
      simp at hv
      rcases hv with rfl | rfl <;> rfl
    · rw [sf_enc, sf_enc]
      have h := cvxCmp (if x < n then p x else 0) (sfK n q x) (if y < n then p y else 0) (sfK n q y) (sortWorldK (sfEnc 2 n (fun _ => .int .i64 0) (cX p q)) 2 w b 0 m dk os)
      have e : wrap64 (sfK n q x - sfK n q y) = sfK n q x - sfK n q y := by
        have := hb x
        have := hb y
        unfold wrap64
        omega
      rw [e] at h
      exact h
end Go.Proofs.Ytkkkldhilofgmaa
