/-
  Plain facts: the part of a convex function between two places, and the function turned round.
-/
import Derived.Test.YtkkkldhilofgmaaMov
namespace Go.Proofs.Ytkkkldhilofgmaa
open Go.RowKit

theorem ok_cxE {lo v : Int} {n : Nat} {p q : Nat → Int} (h : okCx lo v n p q) : cxE lo v n p q = 0 := by
  obtain ⟨h1, h2, h3, h4, h5, h6, h7, h8⟩ := h
  unfold cxE
  rw [if_neg (by omega), if_neg (by omega)]
  refine fst_of fun k hk => ?_
  have a := h6 k hk
  have b := h8 (k + 1) (by omega)
  unfold pcE
  rw [if_neg (by omega), if_neg ?_, if_neg (by omega)]
  rintro ⟨c, d⟩
  have e := h7 (k - 1) (by omega)
  rw [show k - 1 + 1 = k by omega] at e
  omega
/-- the sums at the ends are values -/
theorem run_bd {v : Int} {n : Nat} {p q : Nat → Int} (hp : ∀ k, k < n → 1 ≤ p k) (hb : ∀ m : Nat, (m : Int) ≤ S p n → -1000000000000000 ≤ cW v n p q m ∧ cW v n p q m ≤ 1000000000000000) : ∀ k, k ≤ n → -1000000000000000 ≤ v + S (pq p q) k ∧ v + S (pq p q) k ≤ 1000000000000000 := fun k hk => by
  have h0 := S_le (p := p) (a := 0) (b := 0 + S p k) (k := k) (fun j hj => ⟨by have := hp j (by omega); omega, by
    have m1 := S_mono (p := p) (i := j + 1) (j := k) (fun i hi => by have := hp i (by omega); omega) (by omega)
    have m2 := S_mono (p := p) (i := 0) (j := j) (fun i hi => by have := hp i (by omega); omega) (by omega)
    simp only [S] at m1 m2
    omega⟩)
  have h1 : 0 ≤ S p k := by omega
  have h2 := S_mono (p := p) (i := k) (j := n) (fun i hi => by have := hp i (by omega); omega) hk
  have h3 := hb (S p k).toNat (by omega)
  have h4 := ct_full (q := q) hp hk
  unfold cW at h3
  rw [Int.toNat_of_nonneg h1, h4] at h3
  exact h3

theorem cn_inv {p : Nat → Int} {L E : Int} : ∀ {n j : Nat}, j < cn p L E n → ∃ i, i < n ∧ ln p L E i > 0 ∧ cn p L E i = j
  | n + 1, j, h => by
    simp only [cn] at h
    split at h
    · rename_i hl
      rcases Nat.lt_succ_iff_lt_or_eq.1 h with h1 | rfl
      · obtain ⟨i, a, b⟩ := cn_inv h1
        exact ⟨i, by omega, b⟩
      · exact ⟨n, by omega, hl, rfl⟩
    · obtain ⟨i, a, b⟩ := cn_inv h
      exact ⟨i, by omega, b⟩
theorem cn_mono {p : Nat → Int} {L E : Int} {i : Nat} : ∀ {j : Nat}, i ≤ j → cn p L E i ≤ cn p L E j
  | 0, h => by obtain rfl : i = 0 := by omega
               exact Nat.le_refl _
  | j + 1, h => by
    rcases Nat.eq_or_lt_of_le h with rfl | hlt
    · exact Nat.le_refl _
    · have := cn_mono (p := p) (L := L) (E := E) (i := i) (j := j) (by omega)
      simp only [cn]
      split <;> omega

section
variable {p : Nat → Int} {n : Nat} {L E : Int}
theorem cut_sel (hp : ∀ k, k < n → 1 ≤ p k) {j : Nat} (hj : j < cn p L E n) : cA p L E n + j < n ∧ ln p L E (cA p L E n + j) > 0 := by
  obtain ⟨i, h1, h2, h3⟩ := cn_inv hj
  have := cn_at hp h1 h2
  rw [h3] at this
  rw [this]
  exact ⟨h1, h2⟩
theorem cut_lo (hp : ∀ k, k < n → 1 ≤ p k) (hL : 0 ≤ L) (hk : 0 < cn p L E n) : S p (cA p L E n) ≤ L ∧ L < S p (cA p L E n + 1) ∧ L < E := by
  obtain ⟨h1, h2⟩ := cut_sel hp hk
  rw [Nat.add_zero] at h1 h2
  obtain ⟨_, _, h3⟩ := cA_at hp h1 h2
  have e1 := (ln_pos (hp _ h1)).1 h2
  refine ⟨?_, e1.2.1, e1.1⟩
  by_cases h0 : cA p L E n = 0
  · rw [h0]; exact hL
  · have e2 := h3 (cA p L E n - 1) (by omega)
    rw [ln_pos (hp _ (by omega)), show cA p L E n - 1 + 1 = cA p L E n by omega] at e2
    have m1 := S_mono (p := p) (i := cA p L E n - 1) (j := cA p L E n) (fun i hi => by have := hp i (by omega); omega) (by omega)
    omega
theorem cut_S (hp : ∀ k, k < n → 1 ≤ p k) (hL : 0 ≤ L) : ∀ j, 1 ≤ j → j ≤ cn p L E n → S (fun j => ln p L E (cA p L E n + j)) j = min E (S p (cA p L E n + j)) - L
  | 0, h, _ => by omega
  | j + 1, _, hj => by
    have hlo := cut_lo (p := p) (n := n) (L := L) (E := E) hp hL (by omega)
    have hs := cut_sel (L := L) (E := E) hp (j := j) (by omega)
    have e1 := (ln_pos (hp _ hs.1)).1 hs.2
    show S (fun j => ln p L E (cA p L E n + j)) j + ln p L E (cA p L E n + j) = min E (S p (cA p L E n + j + 1)) - L
    by_cases h0 : j = 0
    · rw [h0] at *
      rw [Nat.add_zero] at *
      show 0 + ln p L E (cA p L E n) = min E (S p (cA p L E n + 1)) - L
      unfold ln
      omega
    · rw [cut_S hp hL j (by omega) (by omega)]
      have m1 := S_mono (p := p) (i := cA p L E n + 1) (j := cA p L E n + j) (fun i hi => by have := hp i (by omega); omega) (by omega)
      unfold ln
      omega
theorem cut_T (hp : ∀ k, k < n → 1 ≤ p k) (hL : 0 ≤ L) (hLE : L ≤ E) (hE : E ≤ S p n) : S (fun j => ln p L E (cA p L E n + j)) (cn p L E n) = E - L := by
  by_cases h0 : cn p L E n = 0
  · rw [h0]
    by_cases he : L = E
    · simp only [S]; omega
    · exfalso
      obtain ⟨i, hi, a, b⟩ := piece hp (m := L) hL (by omega)
      have h1 := (ln_pos (p := p) (L := L) (E := E) (hp i hi)).2 ⟨by omega, b, by omega⟩
      have h2 := cn_mono (p := p) (L := L) (E := E) (i := i + 1) (j := n) (by omega)
      simp only [cn] at h2
      rw [if_pos h1] at h2
      omega
  · rw [cut_S hp hL _ (by omega) (Nat.le_refl _)]
    have hlo := cut_lo (p := p) (n := n) (L := L) (E := E) hp hL (by omega)
    have hs := cut_sel (L := L) (E := E) hp (j := cn p L E n - 1) (by omega)
    have : E ≤ S p (cA p L E n + cn p L E n) := by
      by_cases hn : cA p L E n + cn p L E n < n
      · have m1 := S_mono (p := p) (i := cA p L E n + 1) (j := cA p L E n + cn p L E n + 1) (fun i hi => by have := hp i (by omega); omega) (by omega)
        have h1 : ¬ ln p L E (cA p L E n + cn p L E n) > 0 := fun h => by
          have h2 := cn_at hp hn h
          have h3 := cn_mono (p := p) (L := L) (E := E) (i := cA p L E n + cn p L E n + 1) (j := n) (by omega)
          simp only [cn] at h3
          rw [if_pos h] at h3
          omega
        rw [ln_pos (hp _ hn)] at h1
        omega
      · rw [show cA p L E n + cn p L E n = n by omega]; exact hE
    omega
end

theorem cut_W {lo v : Int} {n : Nat} {p q : Nat → Int} {L E : Nat} (h : okCx lo v n p q) (hLE : L ≤ E) (hE : (E : Int) ≤ S p n) : ∀ m : Nat, L + m ≤ E → cW (cW v n p q L) (cn p L E n) (fun j => ln p L E (cA p L E n + j)) (fun j => q (cA p L E n + j)) m = cW v n p q (L + m) := by
  have hp := h.pos
  have hP : ∀ j, j < cn p L E n → 1 ≤ (fun j => ln p (L : Int) E (cA p L E n + j)) j := fun j hj => by have := (cut_sel hp hj).2; show 1 ≤ ln p (L : Int) E (cA p L E n + j); omega
  have hT := cut_T (p := p) (n := n) (L := L) (E := E) hp (by omega) (by omega) hE
  intro m
  induction m with
  | zero =>
    intro _
    unfold cW
    rw [show ((0 : Nat) : Int) = 0 from rfl, ct_zero hP]
    rw [Nat.add_zero, Int.add_zero]
  | succ m ih =>
    intro hm
    obtain ⟨j, hj, a, b⟩ := piece hP (m := m) (by omega) (by rw [hT]; omega)
    have e1 := ct_step (q := fun j => q (cA p L E n + j)) hP hj a b
    have hs := cut_sel hp hj
    have e2 := (ln_pos (hp _ hs.1)).1 hs.2
    have hlo := cut_lo (p := p) (n := n) (L := L) (E := E) hp (by omega) (by omega)
    rw [cut_S hp (by omega) (j + 1) (by omega) hj] at b
    have a' : S p (cA p L E n + j) ≤ (L + m : Nat) := by
      by_cases h0 : j = 0
      · rw [h0, Nat.add_zero]; omega
      · rw [cut_S hp (by omega) j (by omega) (by omega)] at a; omega
    have e3 := cW_step h hs.1 a' (by rw [show cA p (L : Int) E n + (j + 1) = cA p L E n + j + 1 by omega] at b; omega)
    have e4 := ih (by omega)
    rw [show L + (m + 1) = L + m + 1 by omega, e3, ← e4]
    unfold cW
    rw [show ((m + 1 : Nat) : Int) = (m : Int) + 1 by omega, e1]
    omega
theorem cut_ok {lo v : Int} {n : Nat} {p q : Nat → Int} {L E : Nat} (h : okCx lo v n p q) (hLE : L ≤ E) (hE : (E : Int) ≤ S p n) : okCx (lo + L) (cW v n p q L) (cn p L E n) (fun j => ln p L E (cA p L E n + j)) (fun j => q (cA p L E n + j)) := by
  have hp := h.pos
  have hSn := h.sS (Nat.le_refl n)
  have hP : ∀ j, j < cn p L E n → 1 ≤ (fun j => ln p (L : Int) E (cA p L E n + j)) j := fun j hj => by have := (cut_sel hp hj).2; show 1 ≤ ln p (L : Int) E (cA p L E n + j); omega
  have hT := cut_T (p := p) (n := n) (L := L) (E := E) hp (by omega) (by omega) hE
  have h1 := cW_bd h (m := L) (by omega)
  have hb := run_bd (v := cW v n p q L) (q := fun j => q (cA p L E n + j)) hP (fun m hm => by
    rw [cut_W h hLE hE m (by omega)]
    exact cW_bd h (by omega))
  refine ⟨?_, by have := h.2.1; omega, by omega, h1.1, h1.2, fun k hk => ?_, fun k hk => ?_, fun k hk => ⟨?_, hb k hk⟩⟩
  · by_cases h0 : cn p L E n = 0
    · omega
    · have := (cut_sel (L := (L : Int)) (E := E) hp (j := cn p L E n - 1) (by omega)).1
      have := h.1
      omega
  · have hs := cut_sel hp hk
    have h2 := h.2.2.2.2.2.1 _ hs.1
    have h3 : S p (cA p L E n + k + 1) = S p (cA p L E n + k) + p (cA p L E n + k) := rfl
    have h4 : ln p (L : Int) E (cA p L E n + k) ≤ p (cA p L E n + k) := by unfold ln; omega
    exact ⟨hP k hk, by show ln p (L : Int) E (cA p L E n + k) ≤ 2000000; omega, h2.2.2⟩
  · have hs := cut_sel hp hk
    exact h.inc _ _ (by omega) hs.1
  · have := S_mono (p := fun j => ln p (L : Int) E (cA p L E n + j)) (i := k) (j := cn p L E n) (fun i hi => by have h1 : 1 ≤ ln p (L : Int) E (cA p L E n + i) := hP i hi; show 0 ≤ ln p (L : Int) E (cA p L E n + i); omega) hk
    omega

/-- the pieces from behind -/
def rvP (n : Nat) (p : Nat → Int) (j : Nat) : Int := p (n - 1 - j)
def rvQ (n : Nat) (q : Nat → Int) (j : Nat) : Int := - q (n - 1 - j)
theorem rev_S {n : Nat} {p : Nat → Int} : ∀ j, j ≤ n → S (rvP n p) j + S p (n - j) = S p n
  | 0, _ => by simp [S]
  | j + 1, hj => by
    have h1 := rev_S (n := n) (p := p) j (by omega)
    rw [show n - j = (n - 1 - j) + 1 by omega] at h1
    have h2 : S p ((n - 1 - j) + 1) = S p (n - 1 - j) + p (n - 1 - j) := rfl
    have h3 : S (rvP n p) (j + 1) = S (rvP n p) j + p (n - 1 - j) := rfl
    rw [show n - (j + 1) = n - 1 - j by omega]
    omega
theorem turn_W {lo v : Int} {n : Nat} {p q : Nat → Int} (h : okCx lo v n p q) : ∀ m : Nat, (m : Int) ≤ S p n → cW (cW v n p q (S p n).toNat) n (rvP n p) (rvQ n q) m = cW v n p q ((S p n).toNat - m) := by
  have hp := h.pos
  have hSn := h.sS (Nat.le_refl n)
  have hP : ∀ j, j < n → 1 ≤ rvP n p j := fun j hj => hp (n - 1 - j) (by omega)
  have hT : S (rvP n p) n = S p n := by have h9 := rev_S (n := n) (p := p) n (Nat.le_refl n); rw [Nat.sub_self] at h9; exact (Int.add_zero _).symm.trans h9
  intro m
  induction m with
  | zero =>
    intro _
    unfold cW
    rw [show ((0 : Nat) : Int) = 0 from rfl, ct_zero hP, Nat.sub_zero, Int.add_zero]
  | succ m ih =>
    intro hm
    obtain ⟨j, hj, a, b⟩ := piece hP (m := m) (by omega) (by omega)
    have e1 := ct_step (q := rvQ n q) hP hj a b
    have r1 := rev_S (n := n) (p := p) j (by omega)
    have r2 := rev_S (n := n) (p := p) (j + 1) (by omega)
    rw [show n - j = (n - 1 - j) + 1 by omega] at r1
    rw [show n - (j + 1) = n - 1 - j by omega] at r2
    have e3 := cW_step (m := (S p n).toNat - (m + 1)) h (i := n - 1 - j) (by omega) (by omega) (by omega)
    rw [show (S p n).toNat - (m + 1) + 1 = (S p n).toNat - m by omega] at e3
    have e4 := ih (by omega)
    have e5 : rvQ n q j = - q (n - 1 - j) := rfl
    have e6 : cW (cW v n p q (S p n).toNat) n (rvP n p) (rvQ n q) (m + 1) = cW (cW v n p q (S p n).toNat) n (rvP n p) (rvQ n q) m + rvQ n q j := by
      show cW v n p q (S p n).toNat + S (ct (rvP n p) (rvQ n q) ((m + 1 : Nat) : Int)) n = cW v n p q (S p n).toNat + S (ct (rvP n p) (rvQ n q) (m : Int)) n + rvQ n q j
      rw [show ((m + 1 : Nat) : Int) = (m : Int) + 1 by omega, e1]
      omega
    omega
theorem turn_ok {lo v : Int} {n : Nat} {p q : Nat → Int} (h : okCx lo v n p q) : okCx (-(lo + S p n)) (cW v n p q (S p n).toNat) n (rvP n p) (rvQ n q) := by
  have hp := h.pos
  have hSn := h.sS (Nat.le_refl n)
  have hP : ∀ j, j < n → 1 ≤ rvP n p j := fun j hj => hp (n - 1 - j) (by omega)
  have hT : S (rvP n p) n = S p n := by have h9 := rev_S (n := n) (p := p) n (Nat.le_refl n); rw [Nat.sub_self] at h9; exact (Int.add_zero _).symm.trans h9
  have h1 := cW_bd h (m := (S p n).toNat) (by omega)
  have hb := run_bd (v := cW v n p q (S p n).toNat) (q := rvQ n q) hP (fun m hm => by
    rw [turn_W h m (by omega)]
    exact cW_bd h (by omega))
  have hl := h.2.1
  refine ⟨h.1, by omega, by omega, h1.1, h1.2, fun k hk => ?_, fun k hk => ?_, fun k hk => ⟨?_, hb k hk⟩⟩
  · have h2 := h.2.2.2.2.2.1 (n - 1 - k) (by omega)
    unfold rvP rvQ
    omega
  · have h2 := h.inc (n - 1 - (k + 1)) (n - 1 - k) (by omega) (by omega)
    unfold rvQ
    omega
  · have := S_mono (p := rvP n p) (i := k) (j := n) (fun i hi => by have := hP i hi; omega) hk
    omega
end Go.Proofs.Ytkkkldhilofgmaa
