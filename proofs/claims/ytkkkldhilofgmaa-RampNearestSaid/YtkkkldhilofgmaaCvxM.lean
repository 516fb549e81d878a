/-
  The least sum for each sum of arguments: the pieces of two functions in the order of their slopes. Plain laws.
-/
import Derived.Test.YtkkkldhilofgmaaCvxK
namespace Go.Proofs.Ytkkkldhilofgmaa
open Go.RowKit

/-- two rows of pieces whose slopes do not fall -/
structure Two (n n' : Nat) (p q p' q' : Nat → Int) : Prop where
  p1 : ∀ j, j < n → 1 ≤ p j
  p2 : ∀ j, j < n' → 1 ≤ p' j
  q1 : ∀ j, j + 1 < n → q j ≤ q (j + 1)
  q2 : ∀ j, j + 1 < n' → q' j ≤ q' (j + 1)
def twM (n n' : Nat) (k : Nat) : Nat := if k = 0 then n else n'
def twP (p p' : Nat → Int) (k : Nat) : Nat → Int := if k = 0 then p else p'
def twE (n n' : Nat) (p p' : Nat → Int) (k : Nat) : Int := S (twP p p' k) (twM n n' k)
section
variable {n n' : Nat} {p q p' q' : Nat → Int}
theorem Two.pos (h : Two n n' p q p' q') (k : Nat) : ∀ j, j < twM n n' k → 1 ≤ twP p p' k j := fun j hj => by
  unfold twM at hj
  unfold twP
  split at hj
  · rename_i h0; rw [if_pos h0]; exact h.p1 j hj
  · rename_i h0; rw [if_neg h0]; exact h.p2 j hj
theorem Two.ok (h : Two n n' p q p' q') : RbOk (twM n n') (twP p p') (twP q q') (twE n n' p p') 2 := by
  refine ⟨fun k _ => h.pos k, fun k _ j hj => ?_, fun k _ => ?_, fun k _ => Int.le_refl _⟩
  · unfold twM at hj
    unfold twP
    split at hj
    · rename_i h0; rw [if_pos h0]; exact h.q1 j hj
    · rename_i h0; rw [if_neg h0]; exact h.q2 j hj
  · have := S_mono (p := twP p p' k) (i := 0) (j := twM n n' k) (fun z hz => by have := h.pos k z hz; omega) (Nat.zero_le _)
    exact this
theorem Two.fl (h : Two n n' p q p' q') (k : Nat) {j : Nat} (hj : j < twM n n' k) : fl (twP p p' k) (twE n n' p p' k) j = twP p p' k j := by
  have h1 := h.pos k j hj
  have h2 : S (twP p p' k) (j + 1) ≤ twE n n' p p' k := S_mono (fun z hz => by have := h.pos k z hz; omega) hj
  have h3 : S (twP p p' k) (j + 1) = S (twP p p' k) j + twP p p' k j := rfl
  unfold Go.Proofs.Ytkkkldhilofgmaa.fl
  omega
theorem Two.rW (h : Two n n' p q p' q') (k : Nat) {j : Nat} (hj : j < twM n n' k) : rW (twP p p' k) (twE n n' p p' k) j = 1 := by
  have h1 := h.pos k j hj
  unfold Go.Proofs.Ytkkkldhilofgmaa.rW
  rw [h.fl k hj, if_pos (by omega), if_neg (Int.lt_irrefl _)]
theorem Two.oN (h : Two n n' p q p' q') (k : Nat) : ∀ j, j ≤ twM n n' k → oN (Go.Proofs.Ytkkkldhilofgmaa.rW (twP p p' k) (twE n n' p p' k)) j = j
  | 0, _ => rfl
  | j + 1, hj => by
    show Go.Proofs.Ytkkkldhilofgmaa.oN _ j + _ = _
    rw [h.oN k j (by omega), h.rW k (by omega)]
theorem Two.rM (h : Two n n' p q p' q') (k : Nat) : rM (twM n n') (twP p p') (twE n n' p p') k = twM n n' k := h.oN k _ (Nat.le_refl _)
theorem Two.all (h : Two n n' p q p' q') : Go.Proofs.Ytkkkldhilofgmaa.oN (Go.Proofs.Ytkkkldhilofgmaa.rM (twM n n') (twP p p') (twE n n' p p')) 2 = n + n' := by
  show 0 + Go.Proofs.Ytkkkldhilofgmaa.rM _ _ _ 0 + Go.Proofs.Ytkkkldhilofgmaa.rM _ _ _ 1 = _
  rw [h.rM 0, h.rM 1, Nat.zero_add]
  rfl
/-- block e, read off -/
theorem Two.at (h : Two n n' p q p' q') {e : Nat} (he : e < n + n') : uS (twM n n') (twP p p') (twE n n' p p') 2 e = cat n p p' e ∧ uQ (twM n n') (twP p p') (twP q q') (twE n n' p p') 2 e = cat n q q' e ∧ uF (twM n n') (twP p p') (twE n n' p p') 2 e = false := by
  have key : ∀ k j, k < 2 → j < twM n n' k → e = Go.Proofs.Ytkkkldhilofgmaa.oN (Go.Proofs.Ytkkkldhilofgmaa.rM (twM n n') (twP p p') (twE n n' p p')) k + j →
      uS (twM n n') (twP p p') (twE n n' p p') 2 e = twP p p' k j ∧ uQ (twM n n') (twP p p') (twP q q') (twE n n' p p') 2 e = twP q q' k j ∧ uF (twM n n') (twP p p') (twE n n' p p') 2 e = false := fun k j hk hj ee => by
    have hw : 0 < Go.Proofs.Ytkkkldhilofgmaa.rW (twP p p' k) (twE n n' p p' k) j := by rw [h.rW k hj]; exact Nat.zero_lt_one
    have e2 : e = Go.Proofs.Ytkkkldhilofgmaa.oN (Go.Proofs.Ytkkkldhilofgmaa.rM (twM n n') (twP p p') (twE n n' p p')) k + (Go.Proofs.Ytkkkldhilofgmaa.oN (Go.Proofs.Ytkkkldhilofgmaa.rW (twP p p' k) (twE n n' p p' k)) j + 0) := by rw [h.oN k j (by omega)]; exact ee
    have hF : rF (twP p p' k) (twE n n' p p' k) (twM n n' k) (Go.Proofs.Ytkkkldhilofgmaa.oN (Go.Proofs.Ytkkkldhilofgmaa.rW (twP p p' k) (twE n n' p p' k)) j + 0) = false := by
      rw [rF_at hj hw, h.fl k hj]
      have := h.pos k j hj
      simp
      omega
    rw [e2]
    refine ⟨(uA_at _ hk hj hw).trans ?_, (uA_at _ hk hj hw).trans ?_, (uA_at _ hk hj hw).trans hF⟩
    · unfold rS
      rw [hF, rJ_at hj hw]
      exact h.fl k hj
    · rw [rJ_at hj hw]
  unfold cat
  by_cases h1 : e < n
  · rw [if_pos h1, if_pos h1]
    exact key 0 e (by decide) h1 (by show e = 0 + e; omega)
  · rw [if_neg h1, if_neg h1]
    refine key 1 (e - n) (by decide) (show e - n < n' by omega) ?_
    show e = 0 + Go.Proofs.Ytkkkldhilofgmaa.rM _ _ _ 0 + (e - n)
    rw [h.rM 0]
    show e = 0 + n + (e - n)
    omega
section
variable {π : Nat → Nat} {T : Int}
theorem Two.wk (h : Two n n' p q p' q') (hq : Wk (cat n q q') π (n + n')) : Wk (uK (twM n n') (twP p p') (twP q q') (twE n n' p p') 2) π (Go.Proofs.Ytkkkldhilofgmaa.oN (Go.Proofs.Ytkkkldhilofgmaa.rM (twM n n') (twP p p') (twE n n' p p')) 2) := by
  rw [h.all]
  refine ⟨fun i j hij hj => ?_, fun k hk => hq.lt hk, fun i j hi hj e => hq.inj hi hj e, fun i hi => hq.onto hi⟩
  have h1 := hq.le hij hj
  obtain ⟨_, a2, a3⟩ := h.at (hq.lt (show i < n + n' by omega))
  obtain ⟨_, b2, b3⟩ := h.at (hq.lt hj)
  unfold uK
  rw [a2, a3, b2, b3]
  simp
  omega
/-- the cost of the first T units in the order of slopes -/
theorem Two.cost (h : Two n n' p q p' q') (hq : Wk (cat n q q') π (n + n')) : rbC (twM n n') (twP p p') (twP q q') (twE n n' p p') 2 π T 0 (n + n') = S (ct (fun z => cat n p p' (π z)) (fun z => cat n q q' (π z)) T) (n + n') := by
  have hs : ∀ z, z ≤ n + n' → eS (fun b => uS (twM n n') (twP p p') (twE n n' p p') 2 (π b)) (fun b => uF (twM n n') (twP p p') (twE n n' p p') 2 (π b)) z = S (fun z => cat n p p' (π z)) z := fun z hz => S_congr fun b hb => by
    obtain ⟨a1, _, a3⟩ := h.at (hq.lt (show b < n + n' by omega))
    simp [a1, a3]
  have hl : ∀ z, z ≤ n + n' → lS (fun b => uS (twM n n') (twP p p') (twE n n' p p') 2 (π b)) (fun b => uF (twM n n') (twP p p') (twE n n' p p') 2 (π b)) z = 0 := fun z hz => S_zero fun b hb => by
    obtain ⟨_, _, a3⟩ := h.at (hq.lt (show b < n + n' by omega))
    simp [a3]
  refine S_congr fun z hz => ?_
  obtain ⟨a1, a2, a3⟩ := h.at (hq.lt hz)
  rw [a2]
  unfold ct
  congr 1
  have hF : ¬ uF (twM n n') (twP p p') (twE n n' p p') 2 (π z) = true := by rw [a3]; decide
  unfold rbN gn gd
  dsimp only
  rw [if_neg hF, a1, hs z (by omega), hl z (by omega)]
  simp
  omega
theorem Two.done (h : Two n n' p q p' q') (hq : Wk (cat n q q') π (n + n')) (hT : T ≤ S p n + S p' n') : rbD (twM n n') (twP p p') (twE n n' p p') 2 π T 0 (n + n') = 0 := by
  have hs : eS (fun b => uS (twM n n') (twP p p') (twE n n' p p') 2 (π b)) (fun b => uF (twM n n') (twP p p') (twE n n' p p') 2 (π b)) (n + n') = S (fun z => cat n p p' (π z)) (n + n') := S_congr fun b hb => by
    obtain ⟨a1, _, a3⟩ := h.at (hq.lt hb)
    simp [a1, a3]
  have hl : lS (fun b => uS (twM n n') (twP p p') (twE n n' p p') 2 (π b)) (fun b => uF (twM n n') (twP p p') (twE n n' p p') 2 (π b)) (n + n') = 0 := S_zero fun b hb => by
    obtain ⟨_, _, a3⟩ := h.at (hq.lt hb)
    simp [a3]
  have hsum : S (fun z => cat n p p' (π z)) (n + n') = S p n + S p' n' := by
    rw [hq.sum (cat n p p'), S_add]
    congr 1
    · exact S_congr fun k hk => if_pos hk
    · exact S_congr fun k _ => by
        unfold cat
        rw [if_neg (by omega), Nat.add_sub_cancel_left]
  unfold rbD gd
  rw [hs, hl, hsum]
  omega
/-- no two arguments with this sum have a smaller sum of values -/
theorem Two.least (h : Two n n' p q p' q') (hq : Wk (cat n q q') π (n + n')) {i j : Int} (hi : 0 ≤ i ∧ i ≤ S p n) (hj : 0 ≤ j ∧ j ≤ S p' n') (hs : i + j = T) :
    S (ct (fun z => cat n p p' (π z)) (fun z => cat n q q' (π z)) T) (n + n') ≤ S (ct p q i) n + S (ct p' q' j) n' := by
  have h1 := (rb_opt h.ok (h.wk hq) (T := T) (L := 0) (by omega) (Int.le_refl _) (x := fun k => if k = 0 then i else j) (fun k hk => by
    match k, hk with
    | 0, _ => exact hi
    | 1, _ => exact hj) (by show 0 + i + j = T; omega) (by
    show 0 + (i - min i (S p n)) + (j - min j (S p' n')) ≤ 0
    omega)).2
  rw [h.all, h.cost hq] at h1
  refine Int.le_trans h1 ?_
  show 0 + S (ct p q i) n + S (ct p' q' j) n' ≤ _
  omega
/-- and two have it -/
theorem Two.have' (h : Two n n' p q p' q') (hq : Wk (cat n q q') π (n + n')) (hT : 0 ≤ T ∧ T ≤ S p n + S p' n') :
    ∃ i j, (0 ≤ i ∧ i ≤ S p n) ∧ (0 ≤ j ∧ j ≤ S p' n') ∧ i + j = T ∧ S (ct p q i) n + S (ct p' q' j) n' = S (ct (fun z => cat n p p' (π z)) (fun z => cat n q q' (π z)) T) (n + n') := by
  obtain ⟨f1, f2, _, f4⟩ := rb_found h.ok (h.wk hq) (T := T) (L := 0) hT.1 (Int.le_refl _)
  rw [h.all] at f1 f2 f4
  have hd := h.done hq hT.2
  rw [hd] at f2
  have f4 := f4 hd
  rw [h.cost hq] at f4
  have e2 : S (fun k => rbX (twM n n') (twP p p') (twE n n' p p') 2 π T 0 k (n + n')) 2 = 0 + rbX (twM n n') (twP p p') (twE n n' p p') 2 π T 0 0 (n + n') + rbX (twM n n') (twP p p') (twE n n' p p') 2 π T 0 1 (n + n') := rfl
  have e4 : S (fun k => S (ct (twP p p' k) (twP q q' k) (rbX (twM n n') (twP p p') (twE n n' p p') 2 π T 0 k (n + n'))) (twM n n' k)) 2 = 0 + S (ct p q (rbX (twM n n') (twP p p') (twE n n' p p') 2 π T 0 0 (n + n'))) n + S (ct p' q' (rbX (twM n n') (twP p p') (twE n n' p p') 2 π T 0 1 (n + n'))) n' := rfl
  exact ⟨_, _, f1 0 (by decide), f1 1 (by decide), by omega, by rw [← f4, e4]; omega⟩
end
end
end Go.Proofs.Ytkkkldhilofgmaa
