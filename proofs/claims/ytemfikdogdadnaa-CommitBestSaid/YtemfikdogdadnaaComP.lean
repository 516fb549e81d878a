/-
  Generators of commitments: what is left of their offers above the least power.
-/
import Derived.Test.YtemfikdogdadnaaComU
import Derived.Test.YtemfikdogdadnaaRsdP
namespace Go.Proofs.Ytemfikdogdadnaa
open Go.RowKit

theorem cuE_zero {u : CuR} (h : cuE u = 0) : staE u.r u.on u.si u.po = 0 ∧ okR u.r ∧ offE u.s u.m u.p u.q = 0 ∧ okOff u.m u.p u.q ∧ S u.p u.m = u.r.mo ∧ 0 ≤ u.r.le ∧ u.r.le ≤ u.r.mo ∧ u.r.mo ≤ 100000 := by
  unfold cuE at h
  split at h
  · rename_i hh; exact absurd h hh
  · rename_i h0
    split at h
    · rename_i hh; exact absurd h hh
    · rename_i h1
      split at h
      · cases h
      · rename_i h2
        have g0 : staE u.r u.on u.si u.po = 0 := by simpa using h0
        have g1 : offE u.s u.m u.p u.q = 0 := by simpa using h1
        obtain ⟨hr, _⟩ := staE_zero g0
        have hr' := hr
        unfold okR at hr'
        refine ⟨g0, hr, g1, (offE_zero g1).2, ?_, hr'.1, hr'.2.1, hr'.2.2.1⟩
        by_cases hS : S u.p u.m = u.r.mo
        · exact hS
        · exact absurd (.inl hS) h2

section
variable (u : Nat → CuR) (o : Nat → Bool)
/-- the least and the most power of a generator that may be on -/
def cLo (k : Nat) : Int := if o k then (u k).r.le else 0
def cHi (k : Nat) : Int := if o k then (u k).r.mo else 0
def cM (k : Nat) : Nat := rM (u k).p (u k).m (cLo u o k) (cHi u o k)
def cP (k : Nat) : Nat → Int := rP (u k).p (u k).m (cLo u o k) (cHi u o k)
def cQ (k : Nat) : Nat → Int := rQ (u k).p (u k).q (u k).m (cLo u o k)
/-- the room above the least power -/
def cR (k : Nat) : Int := cHi u o k - cLo u o k
/-- the cost of generator k at a power -/
def cC (x : Nat → Int) (k : Nat) : Int := S (ct (u k).p (u k).q (x k)) (u k).m
/-- blocks of a generator among its first j steps -/
def cN (k j : Nat) : Nat := if cLo u o k < cHi u o k then min j (rK (u k).p (cHi u o k) (u k).m) - rJ (u k).p (cLo u o k) (u k).m else 0
end
section
variable {u : Nat → CuR} {o : Nat → Bool} {n k : Nat}
theorem cLH (hv : cuE (u k) = 0) : 0 ≤ cLo u o k ∧ cLo u o k ≤ cHi u o k ∧ cHi u o k ≤ S (u k).p (u k).m ∧ S (u k).p (u k).m ≤ 100000 ∧ (∀ j, j < (u k).m → 1 ≤ (u k).p j) := by
  obtain ⟨_, _, _, h4, h5, h6, h7, h8⟩ := cuE_zero hv
  have := h4.S0 (Nat.le_refl _)
  unfold cLo cHi
  refine ⟨?_, ?_, ?_, by omega, fun j hj => (h4.2.1 j hj).1⟩ <;> split <;> omega
theorem cP_all (hv : cuE (u k) = 0) : S (cP u o k) (cM u o k) = cR u o k := by
  obtain ⟨h1, h2, h3, _, hp⟩ := cLH (o := o) hv
  exact rP_all hp h1 h2 h3
theorem cP_b (hv : cuE (u k) = 0) {j : Nat} (hj : j < cM u o k) : 1 ≤ cP u o k j ∧ cP u o k j ≤ 100000 := by
  obtain ⟨h1, h2, h3, h4, hp⟩ := cLH (o := o) hv
  refine ⟨rP_pos hp hj, ?_⟩
  obtain ⟨a1, a2, a3, a4⟩ := rM_at hp hj
  have := ((cuE_zero hv).2.2.2.1.2.1 _ a1).2.1
  have e : S (u k).p (rJ (u k).p (cLo u o k) (u k).m + j + 1) = S (u k).p (rJ (u k).p (cLo u o k) (u k).m + j) + (u k).p (rJ (u k).p (cLo u o k) (u k).m + j) := rfl
  unfold cP rP
  omega
theorem cQ_b (hv : cuE (u k) = 0) {j : Nat} (hj : j < cM u o k) : -1000000 ≤ cQ u o k j ∧ cQ u o k j ≤ 1000000 := by
  obtain ⟨h1, h2, h3, h4, hp⟩ := cLH (o := o) hv
  obtain ⟨a1, a2, a3, a4⟩ := rM_at hp hj
  have := (cuE_zero hv).2.2.2.1.2.1 _ a1
  exact ⟨this.2.2.1, this.2.2.2⟩
theorem cU (hv : cuE (u k) = 0) {x : Int} (hx : 0 ≤ x) : U (cP u o k) (cQ u o k) (cM u o k) x = if x < cR u o k then U (u k).p (u k).q (u k).m (cLo u o k + x) else 2000000 := by
  obtain ⟨h1, h2, h3, h4, hp⟩ := cLH (o := o) hv
  exact rU hp h1 h2 h3 hx
theorem cct (hv : cuE (u k) = 0) {x : Int} (hx : 0 ≤ x) (hx1 : x ≤ cR u o k) : S (ct (u k).p (u k).q (cLo u o k + x)) (u k).m = S (ct (u k).p (u k).q (cLo u o k)) (u k).m + S (ct (cP u o k) (cQ u o k) x) (cM u o k) := by
  obtain ⟨h1, h2, h3, h4, hp⟩ := cLH (o := o) hv
  exact rct hp h1 h2 h3 hx hx1
theorem cM_le (hv : cuE (u k) = 0) : cM u o k ≤ 12 := by
  obtain ⟨h1, h2, h3, h4, hp⟩ := cLH (o := o) hv
  exact Nat.le_trans (rM_le hp).1 (cuE_zero hv).2.2.2.1.1
theorem cBlks (hv : ∀ k, k < n → cuE (u k) = 0) {π : Nat → Nat} (hs : Sorted (bSz (cM u o) (cQ u o) n) π (oN (cM u o) n)) : Blks2 (cM u o) (cP u o) (cQ u o) n π :=
  ⟨fun k hk j hj => by
    obtain ⟨h1, h2, h3, h4, hp⟩ := cLH (o := o) (hv k hk)
    obtain ⟨a1, a2, a3, a4⟩ := rM_at hp hj
    exact (cuE_zero (hv k hk)).2.2.2.1.2.2.1 (rJ (u k).p (cLo u o k) (u k).m + j) (by omega),
   fun k hk j hj => (cP_b (hv k hk) hj).1, fun k hk j hj => (cQ_b (hv k hk) hj).2, hs⟩
theorem cSum (hv : ∀ k, k < n → cuE (u k) = 0) : S (fun k => S (cP u o k) (cM u o k)) n = S (cR u o) n := S_congr fun k hk => cP_all (hv k hk)
theorem cR_b (hv : ∀ k, k < n → cuE (u k) = 0) {k : Nat} (hk : k ≤ n) : 0 ≤ S (cR u o) k ∧ S (cR u o) k ≤ 100000 * k ∧ 0 ≤ S (cLo u o) k ∧ S (cLo u o) k ≤ 100000 * k := by
  have h1 := S_le (p := cR u o) (a := 0) (b := 100000) (k := k) fun i hi => by
    have := cLH (o := o) (hv i (by omega))
    unfold cR
    omega
  have h2 := S_le (p := cLo u o) (a := 0) (b := 100000) (k := k) fun i hi => by
    have := cLH (o := o) (hv i (by omega))
    omega
  omega
theorem coN_le (hv : ∀ k, k < n → cuE (u k) = 0) : ∀ k, k ≤ n → oN (cM u o) k ≤ 12 * k
  | 0, _ => Nat.le_refl _
  | k + 1, hk => by
    have := coN_le hv k (by omega)
    have := cM_le (o := o) (hv k (by omega))
    simp only [oN]
    omega
theorem cbQ (hv : ∀ k, k < n → cuE (u k) = 0) {e : Nat} (he : e < oN (cM u o) n) : -1000000 ≤ bSz (cM u o) (cQ u o) n e ∧ bSz (cM u o) (cQ u o) n e ≤ 1000000 ∧ 1 ≤ bSz (cM u o) (cP u o) n e ∧ bSz (cM u o) (cP u o) n e ≤ 100000 := by
  obtain ⟨o1, o2, o3⟩ := own_spec he
  have h1 := cQ_b (o := o) (hv _ o1) (j := e - oN (cM u o) (own (cM u o) n e)) (by omega)
  have h2 := cP_b (o := o) (hv _ o1) (j := e - oN (cM u o) (own (cM u o) n e)) (by omega)
  exact ⟨h1.1, h1.2, h2.1, h2.2⟩
/-- the steps of a generator that is on, one after the other -/
theorem cN_step (hv : cuE (u k) = 0) (ho : o k = true) {j : Nat} (hj : j < (u k).m) :
    ((u k).r.le < S (u k).p (j + 1) → cN u o k (j + 1) = cN u o k j + 1 ∧ cN u o k j < cM u o k ∧ cP u o k (cN u o k j) = S (u k).p (j + 1) - max (u k).r.le (S (u k).p j) ∧ cQ u o k (cN u o k j) = (u k).q j) ∧
    (¬ (u k).r.le < S (u k).p (j + 1) → cN u o k (j + 1) = cN u o k j) := by
  obtain ⟨h1, h2, h3, h4, hp⟩ := cLH (o := o) hv
  obtain ⟨_, _, _, _, g5, g6, g7, g8⟩ := cuE_zero hv
  have eL : cLo u o k = (u k).r.le := by unfold cLo; rw [if_pos ho]
  have eH : cHi u o k = S (u k).p (u k).m := by unfold cHi; rw [if_pos ho]; exact g5.symm
  obtain ⟨j1, j2⟩ := rJ_spec hp (u k).r.le
  obtain ⟨k1, k2⟩ := rK_spec hp (S (u k).p (u k).m)
  have hK : rK (u k).p (S (u k).p (u k).m) (u k).m = (u k).m := by
    rcases Nat.eq_or_lt_of_le k1 with e | hlt
    · exact e
    · exfalso
      have a1 := S_up hp (a := rK (u k).p (S (u k).p (u k).m) (u k).m + 1) (b := (u k).m) (by omega) (Nat.le_refl _)
      have a2 := hp _ hlt
      have a3 : S (u k).p (rK (u k).p (S (u k).p (u k).m) (u k).m + 1) = S (u k).p (rK (u k).p (S (u k).p (u k).m) (u k).m) + (u k).p (rK (u k).p (S (u k).p (u k).m) (u k).m) := rfl
      have := (k2 _ hlt).1 (by omega)
      omega
  have hup := S_up hp (a := j + 1) (b := (u k).m) (by omega) (Nat.le_refl _)
  have e1 : S (u k).p (j + 1) = S (u k).p j + (u k).p j := rfl
  have hj' := j2 j hj
  refine ⟨fun hlt => ?_, fun hlt => ?_⟩
  · have hlh : (u k).r.le < S (u k).p (u k).m := by omega
    have hJ : ¬ j < rJ (u k).p (u k).r.le (u k).m := fun hh => by have := hj'.2 hh; omega
    have eN : ∀ i, i ≤ (u k).m → cN u o k i = i - rJ (u k).p (u k).r.le (u k).m := fun i hi => by
      unfold cN
      rw [eL, eH, if_pos hlh, hK, Nat.min_eq_left hi]
    have eM : cM u o k = (u k).m - rJ (u k).p (u k).r.le (u k).m := by
      unfold cM rM
      rw [eL, eH, if_pos hlh, hK]
    rw [eN _ (by omega), eN _ (by omega), eM]
    refine ⟨by omega, by omega, ?_, ?_⟩
    · unfold cP rP
      rw [eL, eH, show rJ (u k).p (u k).r.le (u k).m + (j - rJ (u k).p (u k).r.le (u k).m) = j by omega]
      omega
    · unfold cQ rQ
      rw [eL, show rJ (u k).p (u k).r.le (u k).m + (j - rJ (u k).p (u k).r.le (u k).m) = j by omega]
  · have hJ : j < rJ (u k).p (u k).r.le (u k).m := hj'.1 (by omega)
    unfold cN
    rw [eL, eH, hK]
    split <;> omega
theorem cN_all (hv : cuE (u k) = 0) (ho : o k = true) : cN u o k 0 = 0 ∧ cN u o k (u k).m = cM u o k := by
  obtain ⟨h1, h2, h3, h4, hp⟩ := cLH (o := o) hv
  have k1 := (rK_spec hp (cHi u o k)).1
  unfold cN cM rM
  rw [Nat.min_eq_right k1]
  exact ⟨by split <;> omega, rfl⟩
theorem ct_zero {p q : Nat → Int} {m : Nat} (hp : ∀ j, j < m → 1 ≤ p j) : S (ct p q 0) m = 0 := S_zero fun j hj => by
  have h0 := S_up hp (a := 0) (b := j) (Nat.zero_le _) (by omega)
  have h1 : S p 0 = 0 := rfl
  have h2 := hp j hj
  have e : min (max (0 - S p j) 0) (p j) = 0 := by omega
  unfold ct
  rw [e, Int.zero_mul]
theorem cC_off (hv : cuE (u k) = 0) (ho : o k = false) : cC u (cLo u o) k = 0 := by
  unfold cC
  rw [show cLo u o k = 0 by unfold cLo; rw [ho]; rfl]
  exact ct_zero fun j hj => ((cuE_zero hv).2.2.2.1.2.1 j hj).1
theorem cC_b (hv : ∀ k, k < n → cuE (u k) = 0) (x : Nat → Int) {k : Nat} (hk : k ≤ n) : -1200000000000 * k ≤ S (cC u x) k ∧ S (cC u x) k ≤ 1200000000000 * k :=
  S_le (p := cC u x) (a := -1200000000000) (b := 1200000000000) (k := k) fun j hj => C_le (cuE_zero (hv j (by omega))).2.2.2.1 (x j) (Nat.le_refl _)
theorem cM_off (ho : o k = false) : cM u o k = 0 ∧ cLo u o k = 0 := by
  unfold cM rM cHi cLo
  rw [ho]
  exact ⟨rfl, rfl⟩
end
end Go.Proofs.Ytemfikdogdadnaa
