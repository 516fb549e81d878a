/-
  The best plan of a task: the search and the list of all plans; a plain law.
-/
import Derived.Test.YtkkkldhilofgmaaUpbP
import Derived.Test.YtkkkldhilofgmaaUpk4
namespace Go.Proofs.Ytkkkldhilofgmaa
open Go.RowKit

/-- the days of digits -/
def xd (t : Tsk) (g : Nat → Nat) : Nat → Int := fun k => t.ff k + g k
def wdT (t : Tsk) (k : Nat) : Nat := if k < t.n then (t.la k - t.ff k + 1).toNat else 1
abbrev Bst := Option ((Nat → Nat) × Int)
def btr (s : Bst) (c : Int) : Bool := match s with
  | none => true
  | some p => decide (c < p.2)
/-- a plan is looked at -/
def updT (t : Tsk) (g : Nat → Nat) (s : Bst) : Bst := if fst (wrE t (xd t g)) t.n = 0 ∧ btr s (S (coK t (xd t g)) t.n) = true then some (g, S (coK t (xd t g)) t.n) else s
def dfT (t : Tsk) (m : Nat) (g : Nat → Nat) (s : Bst) : Bst := dfs t.n (wdT t) (updT t) m g s

theorem fst_congr {e e' : Nat → Int} : ∀ {n : Nat}, (∀ k, k < n → e k = e' k) → fst e n = fst e' n
  | 0, _ => rfl
  | n + 1, h => by simp only [fst]; rw [fst_congr fun k hk => h k (by omega), h n (by omega)]
theorem wrE_congr {t : Tsk} {x y : Nat → Int} {i : Nat} (h : ∀ k, k ≤ i → x k = y k) : wrE t x i = wrE t y i := by
  have hi := h i (Nat.le_refl i)
  have e1 : fst (ovE t x i) i = fst (ovE t y i) i := fst_congr fun k hk => by
    have := h k (by omega)
    unfold ovE lo2 hi2
    rw [hi, this]
  have e2 : fst (fuE t x i) 121 = fst (fuE t y i) 121 := fst_congr fun d _ => by
    have e3 : S (bI t x d) (i + 1) = S (bI t y d) (i + 1) := S_congr fun k hk => by
      have := h k (by omega)
      unfold bI bsy
      rw [this]
    unfold fuE
    rw [e3]
    unfold bsy
    rw [hi]
  unfold wrE
  rw [e1, e2]
theorem xd_congr {t : Tsk} {g g' : Nat → Nat} {i : Nat} (h : g i = g' i) : xd t g i = xd t g' i := by unfold xd; rw [h]
theorem coK_xd (t : Tsk) (g : Nat → Nat) (k : Nat) : coK t (xd t g) k = t.we k * g k := by
  unfold coK xd
  rw [show t.ff k + (g k : Int) - t.ff k = g k by omega]

structure TskOk (t : Tsk) : Prop where
  n6 : t.n ≤ 6
  job : ∀ k, k < t.n → 1 ≤ t.lg k ∧ t.lg k ≤ 60 ∧ 0 ≤ t.ff k ∧ t.ff k ≤ t.la k ∧ t.la k ≤ 60 ∧ t.la k ≤ t.ff k + 11 ∧ 0 ≤ t.we k ∧ t.we k ≤ 1000
theorem TskOk.of {t : Tsk} (h : tskE t = 0) : TskOk t := by
  obtain ⟨h1, h2, h3, h4, h5, h6⟩ := tskE_zero h
  exact ⟨h1, fun k hk => by have := h5 k hk; unfold badJ at this; omega⟩
section
variable {t : Tsk} (h : TskOk t)
include h
theorem wdT_pos (k : Nat) : 0 < wdT t k := by
  unfold wdT
  split
  · rename_i hk; have := h.job k hk; omega
  · omega
theorem wdT_le (k : Nat) : wdT t k ≤ 12 := by
  unfold wdT
  split
  · rename_i hk; have := h.job k hk; omega
  · omega
theorem wdT_la {k : Nat} (hk : k < t.n) : t.ff k + (wdT t k : Int) = t.la k + 1 := by
  unfold wdT
  rw [if_pos hk]
  have := h.job k hk
  omega
theorem xd_in {g : Nat → Nat} {k : Nat} (hk : k < t.n) (hg : g k < wdT t k) : t.ff k ≤ xd t g k ∧ xd t g k ≤ t.la k ∧ 0 ≤ xd t g k ∧ xd t g k ≤ 60 := by
  have := wdT_la h hk
  have := h.job k hk
  unfold xd
  omega
theorem co_pos (g : Nat → Nat) {k : Nat} (hk : k < t.n) : 0 ≤ coK t (xd t g) k := by
  rw [coK_xd]
  exact Int.mul_nonneg (h.job k hk).2.2.2.2.2.2.1 (Int.natCast_nonneg _)
theorem co_le {g : Nat → Nat} {k : Nat} (hk : k < t.n) (hg : g k < wdT t k) : 0 ≤ coK t (xd t g) k ∧ coK t (xd t g) k ≤ 12000 := by
  have h1 := h.job k hk
  have h2 := wdT_le h k
  refine ⟨co_pos h g hk, ?_⟩
  rw [coK_xd]
  have := mulB (a := t.we k) (b := (g k : Int)) (A := 1000) (B := 12) (by omega) (by omega) (by omega) (by omega) (by omega)
  omega
theorem co_sum {g : Nat → Nat} {i : Nat} (hi : i ≤ t.n) (hg : ∀ k, k < i → g k < wdT t k) : 0 ≤ S (coK t (xd t g)) i ∧ S (coK t (xd t g)) i ≤ 72000 := by
  have := S_le (p := coK t (xd t g)) (a := 0) (b := 12000) (k := i) fun k hk => co_le h (by omega) (hg k hk)
  have := h.n6
  omega
/-- a plan that costs no less than the best one is left -/
theorem df_dear {g g0 : Nat → Nat} {c : Int} {i : Nat} (hi : i ≤ t.n) (hc : c ≤ S (coK t (xd t g)) i) : dfT t (t.n - i) g (some (g0, c)) = some (g0, c) := by
  refine dfs_skip (by omega) fun g' hg => ?_
  have e1 : S (coK t (xd t g')) i = S (coK t (xd t g)) i := S_congr fun k hk => by rw [coK_xd, coK_xd, hg k (by omega)]
  have e2 := S_mono (p := coK t (xd t g')) (i := i) (j := t.n) (fun k hk => co_pos h g' hk) hi
  refine if_neg fun hh => ?_
  have := hh.2
  simp only [btr, decide_eq_true_eq] at this
  omega
omit h in
/-- a plan that is not permitted is left -/
theorem df_wrong {g : Nat → Nat} {s : Bst} {i : Nat} (hi : i < t.n) (hw : wrE t (xd t g) i ≠ 0) : dfT t (t.n - (i + 1)) g s = s := by
  refine dfs_skip (by omega) fun g' hg => ?_
  refine if_neg fun hh => hw ?_
  rw [← fst_zero hh.1 i hi]
  exact wrE_congr fun k hk => xd_congr (hg k (by omega)).symm
end
/-- a plan is complete -/
theorem df_leaf {t : Tsk} {g : Nat → Nat} {s : Bst} (hw : ∀ k, k < t.n → wrE t (xd t g) k = 0) (hb : btr s (S (coK t (xd t g)) t.n) = true) : dfT t 0 g s = some (g, S (coK t (xd t g)) t.n) := if_pos ⟨fst_of hw, hb⟩
/-- a level's days -/
def dayT (t : Tsk) (i : Nat) (g : Nat → Nat) (s : Bst) (j : Nat) : Bst := rng (fun j s => dfT t (t.n - (i + 1)) (dset g i j) s) 0 j s
theorem df_days {t : Tsk} {i : Nat} {g : Nat → Nat} {s : Bst} (hi : i < t.n) : dfT t (t.n - i) g s = dayT t i g s (wdT t i) := by
  unfold dfT dayT
  rw [show t.n - i = t.n - (i + 1) + 1 by omega]
  simp only [dfs]
  rw [show t.n - (t.n - (i + 1)) - 1 = i by omega]
  rfl
theorem day_next {t : Tsk} {i : Nat} {g : Nat → Nat} {s : Bst} {j : Nat} : dayT t i g s (j + 1) = dfT t (t.n - (i + 1)) (dset g i j) (dayT t i g s j) := by
  unfold dayT
  show _ = _
  simp only [rng, Nat.zero_add]
end Go.Proofs.Ytkkkldhilofgmaa
