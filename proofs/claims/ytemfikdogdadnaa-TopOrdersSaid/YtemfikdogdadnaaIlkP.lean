/-
  Conditions of interlocks: spans of nodes, errors, values; of numbers alone.
-/
import Derived.Test.YtemfikdogdadnaaName4
namespace Go.Proofs.Ytemfikdogdadnaa
open Go.RowKit

structure Cnd where
  n : Nat
  kd : Nat → Int
  nm : Nat → ByteArray
  a : Nat → Int
  b : Nat → Int

/-- the first node of the subtree of node k, or -1; with fuel -/
def spF (c : Cnd) : Nat → Int → Int
  | 0, _ => -1
  | f + 1, k => if k < 0 then -1 else
    if c.kd k.toNat = 4 then (if c.a k.toNat ≠ k - 1 then -1 else spF c f (c.a k.toNat))
    else if c.kd k.toNat = 5 ∨ c.kd k.toNat = 6 then (if c.b k.toNat ≠ k - 1 then -1 else if spF c f (c.b k.toNat) < 1 ∨ c.a k.toNat ≠ spF c f (c.b k.toNat) - 1 then -1 else spF c f (c.a k.toNat))
    else k
def sp (c : Cnd) (k : Int) : Int := spF c (k.toNat + 1) k
theorem spF_neg (c : Cnd) {k : Int} (h : k < 0) : ∀ f, spF c f k = -1
  | 0 => rfl
  | f + 1 => by simp only [spF]; rw [if_pos h]
theorem spF_le (c : Cnd) : ∀ (f : Nat) (k : Int), 0 ≤ k → -1 ≤ spF c f k ∧ spF c f k ≤ k
  | 0, k, h => by simp only [spF]; omega
  | f + 1, k, h => by
    simp only [spF]
    rw [if_neg (by omega)]
    split
    · split
      · omega
      · rename_i h1 h2
        have h2 : c.a k.toNat = k - 1 := by omega
        rw [h2]
        by_cases h0 : k - 1 < 0
        · rw [spF_neg c h0]; omega
        · have := spF_le c f (k - 1) (by omega); omega
    · split
      · split
        · omega
        · rename_i h1 h2 h3
          have h3 : c.b k.toNat = k - 1 := by omega
          rw [h3]
          split
          · omega
          · rename_i h4
            have h5 : ¬ k - 1 < 0 := fun hh => by rw [spF_neg c hh] at h4; omega
            have := spF_le c f (k - 1) (by omega)
            have h6 : 0 ≤ c.a k.toNat := by omega
            have := spF_le c f _ h6
            omega
      · omega
theorem spF_same (c : Cnd) : ∀ (f f' : Nat) (k : Int), k < f → k < f' → spF c f k = spF c f' k
  | 0, f', k, h, _ => by rw [spF_neg c (by omega), spF_neg c (by omega)]
  | f + 1, 0, k, _, h => by rw [spF_neg c (by omega), spF_neg c (by omega)]
  | f + 1, f' + 1, k, h, h' => by
    simp only [spF]
    by_cases h0 : k < 0
    · rw [if_pos h0, if_pos h0]
    · rw [if_neg h0, if_neg h0]
      split
      · split
        · rfl
        · exact spF_same c f f' _ (by omega) (by omega)
      · split
        · split
          · rfl
          · rename_i h1 h2 h3
            have h3 : c.b k.toNat = k - 1 := by omega
            rw [spF_same c f f' (c.b k.toNat) (by omega) (by omega)]
            split
            · rfl
            · rename_i h4
              refine spF_same c f f' _ ?_ ?_ <;> (have h5 : ¬ k - 1 < 0 := fun hh => by rw [h3, spF_neg c hh] at h4; omega) <;> (have := spF_le c f' (k - 1) (by omega)) <;> (rw [h3] at h4; omega)
        · rfl
theorem sp_neg (c : Cnd) {k : Int} (h : k < 0) : sp c k = -1 := spF_neg c h _
theorem sp_le (c : Cnd) {k : Int} (h : 0 ≤ k) : -1 ≤ sp c k ∧ sp c k ≤ k := spF_le c _ k h
theorem sp_eq (c : Cnd) (k : Nat) : sp c k = if c.kd k = 4 then (if c.a k ≠ (k : Int) - 1 then -1 else sp c (c.a k)) else if c.kd k = 5 ∨ c.kd k = 6 then (if c.b k ≠ (k : Int) - 1 then -1 else if sp c (c.b k) < 1 ∨ c.a k ≠ sp c (c.b k) - 1 then -1 else sp c (c.a k)) else k := by
  have e : sp c k = spF c (k + 1) k := rfl
  rw [e]
  simp only [spF, Int.toNat_natCast]
  rw [if_neg (by omega)]
  split
  · split
    · rfl
    · exact spF_same c _ _ _ (by omega) (by omega)
  · split
    · split
      · rfl
      · rename_i h1 h2 h3
        have h3 : c.b k = (k : Int) - 1 := by omega
        have e1 : spF c k (c.b k) = sp c (c.b k) := spF_same c _ _ _ (by omega) (by omega)
        rw [e1]
        split
        · rfl
        · rename_i h4
          have h5 : ¬ (k : Int) - 1 < 0 := fun hh => by rw [h3, sp_neg c hh] at h4; omega
          have := sp_le c (k := (k : Int) - 1) (by omega)
          rw [h3] at h4
          exact spF_same c _ _ _ (by omega) (by omega)
    · rfl

/-- how many children a node has -/
def man (c : Cnd) (k : Nat) : Int := if c.kd k = 4 then 1 else if c.kd k = 5 ∨ c.kd k = 6 then 2 else 0
/-- the error of node k -/
def nodE (c : Cnd) (k : Nat) : Int :=
  if c.kd k < 0 ∨ 6 < c.kd k then 1 else if (c.kd k = 2 ∨ c.kd k = 3) ∧ nameB (c.nm k) = false then 6 else
  if ¬(c.kd k = 2 ∨ c.kd k = 3) ∧ ((c.nm k).toList == (ByteArray.mk #[]).toList) = false ∨ man c k < 1 ∧ c.a k ≠ 0 ∨ man c k < 2 ∧ c.b k ≠ 0 ∨ sp c k < 0 then 3 else 0
def cndE (c : Cnd) : Int := if 40 < c.n then 2 else if c.n = 0 then 3 else if fst (nodE c) c.n ≠ 0 then fst (nodE c) c.n else if sp c ((c.n : Int) - 1) ≠ 0 then 3 else 0
theorem nodE_zero {c : Cnd} {k : Nat} (h : nodE c k = 0) : 0 ≤ c.kd k ∧ c.kd k ≤ 6 ∧ (c.kd k = 4 → c.a k = (k : Int) - 1 ∧ 1 ≤ k ∧ c.b k = 0) ∧ (c.kd k = 5 ∨ c.kd k = 6 → c.b k = (k : Int) - 1 ∧ 1 ≤ sp c ((k : Int) - 1) ∧ c.a k = sp c ((k : Int) - 1) - 1 ∧ 1 ≤ k) ∧ 0 ≤ sp c k := by
  unfold nodE at h
  split at h
  · cases h
  · split at h
    · cases h
    · split at h
      · cases h
      · rename_i h1 h2 h3
        have hs : 0 ≤ sp c k := by omega
        have e := sp_eq c k
        refine ⟨by omega, by omega, fun h4 => ?_, fun h5 => ?_, hs⟩
        · rw [if_pos h4] at e
          have hm : man c k = 1 := by unfold man; rw [if_pos h4]
          split at e
          · omega
          · rename_i h6
            have h7 : c.a k = (k : Int) - 1 := by omega
            refine ⟨h7, ?_, by omega⟩
            refine Nat.pos_of_ne_zero fun h0 => ?_
            subst h0
            rw [h7, sp_neg c (k := ((0 : Nat) : Int) - 1) (by omega)] at e
            omega
        · rw [if_neg (by omega), if_pos h5] at e
          split at e
          · omega
          · rename_i h6
            have h7 : c.b k = (k : Int) - 1 := by omega
            rw [h7] at e
            split at e
            · omega
            · rename_i h8
              refine ⟨h7, by omega, by omega, Nat.pos_of_ne_zero fun h0 => ?_⟩
              subst h0
              rw [sp_neg c (k := ((0 : Nat) : Int) - 1) (by omega)] at h8
              omega

theorem nodE_is6 {c : Cnd} {k : Nat} (h0 : 0 ≤ c.kd k) (h6 : c.kd k ≤ 6) (h : (c.kd k = 2 ∨ c.kd k = 3) ∧ nameB (c.nm k) = false) : nodE c k = 6 := by
  unfold nodE
  rw [if_neg (by omega), if_pos h]
theorem nodE_is3 {c : Cnd} {k : Nat} (h0 : 0 ≤ c.kd k) (h6 : c.kd k ≤ 6) (hn : ¬c.kd k = 2 ∧ ¬c.kd k = 3 ∨ nameB (c.nm k) = true) (h : (¬c.kd k = 2 ∧ ¬c.kd k = 3) ∧ ((c.nm k).toList == (ByteArray.mk #[]).toList) = false ∨ man c k < 1 ∧ c.a k ≠ 0 ∨ man c k < 2 ∧ c.b k ≠ 0 ∨ sp c k < 0) : nodE c k = 3 := by
  unfold nodE
  rw [if_neg (by omega), if_neg, if_pos]
  · rcases h with h | h
    · exact .inl ⟨by omega, h.2⟩
    · exact .inr h
  · rintro ⟨q1, q2⟩
    rcases hn with hn | hn
    · omega
    · rw [q2] at hn; cases hn
theorem nodE_is0 {c : Cnd} {k : Nat} (h0 : 0 ≤ c.kd k) (h6 : c.kd k ≤ 6) (hn : ¬c.kd k = 2 ∧ ¬c.kd k = 3 ∨ nameB (c.nm k) = true) (hx : (c.kd k = 2 ∨ c.kd k = 3) ∨ ((c.nm k).toList == (ByteArray.mk #[]).toList) = true) (h : ¬(man c k < 1 ∧ c.a k ≠ 0 ∨ man c k < 2 ∧ c.b k ≠ 0 ∨ sp c k < 0)) : nodE c k = 0 := by
  unfold nodE
  rw [if_neg (by omega), if_neg, if_neg]
  · rintro (⟨q1, q2⟩ | q)
    · rcases hx with hx | hx
      · exact q1 hx
      · rw [q2] at hx; cases hx
    · exact h q
  · rintro ⟨q1, q2⟩
    rcases hn with hn | hn
    · omega
    · rw [q2] at hn; cases hn
theorem man_is (c : Cnd) (k : Nat) : (c.kd k = 4 → man c k = 1) ∧ (c.kd k = 5 ∨ c.kd k = 6 → man c k = 2) ∧ (¬c.kd k = 4 → ¬c.kd k = 5 → ¬c.kd k = 6 → man c k = 0) := by
  unfold man
  refine ⟨fun h => if_pos h, fun h => ?_, fun h4 h5 h6 => ?_⟩
  · rw [if_neg (by omega), if_pos h]
  · rw [if_neg h4, if_neg (by omega)]

/-- what 'condition' asks of node k, when all nodes before it are well -/
theorem nodE_start {c : Cnd} {k : Nat} (h0 : ∀ i, i < k → 0 ≤ sp c i) : sp c k < 0 ↔ (c.kd k = 4 ∧ (k = 0 ∨ c.a k ≠ (k : Int) - 1)) ∨ ((c.kd k = 5 ∨ c.kd k = 6) ∧ (k = 0 ∨ c.b k ≠ (k : Int) - 1 ∨ sp c ((k : Int) - 1) = 0 ∨ c.a k ≠ sp c ((k : Int) - 1) - 1)) := by
  have e := sp_eq c k
  have prev : 0 < k → 0 ≤ sp c ((k : Int) - 1) := fun hk => by
    have := h0 (k - 1) (by omega)
    rwa [show ((k - 1 : Nat) : Int) = (k : Int) - 1 by omega] at this
  by_cases h4 : c.kd k = 4
  · rw [if_pos h4] at e
    by_cases h5 : c.a k ≠ (k : Int) - 1
    · rw [if_pos h5] at e; omega
    · rw [if_neg h5] at e
      have h5 : c.a k = (k : Int) - 1 := by omega
      rw [h5] at e
      by_cases hk : k = 0
      · subst hk; rw [sp_neg c (k := ((0 : Nat) : Int) - 1) (by omega)] at e; omega
      · have := prev (by omega); omega
  · rw [if_neg h4] at e
    by_cases h5 : c.kd k = 5 ∨ c.kd k = 6
    · rw [if_pos h5] at e
      by_cases h6 : c.b k ≠ (k : Int) - 1
      · rw [if_pos h6] at e; omega
      · rw [if_neg h6] at e
        have h6 : c.b k = (k : Int) - 1 := by omega
        rw [h6] at e
        by_cases hk : k = 0
        · subst hk
          rw [if_pos (.inl (by rw [sp_neg c (k := ((0 : Nat) : Int) - 1) (by omega)]; omega))] at e
          omega
        · have hp := prev (by omega)
          by_cases h7 : sp c ((k : Int) - 1) < 1 ∨ c.a k ≠ sp c ((k : Int) - 1) - 1
          · rw [if_pos h7] at e; omega
          · rw [if_neg h7] at e
            have hle := sp_le c (k := (k : Int) - 1) (by omega)
            have := h0 (c.a k).toNat (by omega)
            rw [show ((c.a k).toNat : Int) = c.a k by omega] at this
            omega
    · rw [if_neg h5] at e; omega

/-- the value of node k, with fuel; o and l: whether the switch of a node is open, closed -/
def hvF (c : Cnd) (o l : Nat → Bool) : Nat → Nat → Bool
  | 0, _ => false
  | f + 1, k => if c.kd k = 0 then true else if c.kd k = 2 then o k else if c.kd k = 3 then l k else if c.kd k = 4 then !hvF c o l f (c.a k).toNat else
    if c.kd k = 5 then hvF c o l f (c.a k).toNat && hvF c o l f (c.b k).toNat else if c.kd k = 6 then hvF c o l f (c.a k).toNat || hvF c o l f (c.b k).toNat else false
def hv (c : Cnd) (o l : Nat → Bool) (k : Nat) : Bool := hvF c o l (k + 1) k
theorem hvF_same {c : Cnd} {o l : Nat → Bool} {n : Nat} (hc : ∀ k, k < n → nodE c k = 0) : ∀ (f f' k : Nat), k < n → k < f → k < f' → hvF c o l f k = hvF c o l f' k
  | 0, _, _, _, h, _ => by omega
  | _ + 1, 0, _, _, _, h => by omega
  | f + 1, f' + 1, k, hn, h, h' => by
    obtain ⟨_, _, g4, g5, _⟩ := nodE_zero (hc k hn)
    have go : ∀ x : Int, x < k → 0 ≤ x → hvF c o l f x.toNat = hvF c o l f' x.toNat := fun x hx hx0 => hvF_same hc f f' x.toNat (by omega) (by omega) (by omega)
    have gb : c.kd k = 5 ∨ c.kd k = 6 → (0 ≤ c.a k ∧ c.a k < k) ∧ 0 ≤ c.b k ∧ c.b k < k := fun h => by
      have := g5 h
      have := sp_le c (k := (k : Int) - 1) (by omega)
      omega
    simp only [hvF]
    repeat' split
    · rfl
    · rfl
    · rfl
    · rename_i h4
      have := g4 h4
      rw [go _ (by omega) (by omega)]
    · rename_i h5
      have := gb (.inl h5)
      rw [go _ (by omega) (by omega), go (c.b k) (by omega) (by omega)]
    · rename_i h6
      have := gb (.inr h6)
      rw [go _ (by omega) (by omega), go (c.b k) (by omega) (by omega)]
    · rfl
theorem hv_eq {c : Cnd} {o l : Nat → Bool} {n : Nat} (hc : ∀ k, k < n → nodE c k = 0) {k : Nat} (hk : k < n) : hv c o l k = if c.kd k = 0 then true else if c.kd k = 2 then o k else if c.kd k = 3 then l k else if c.kd k = 4 then !hv c o l (c.a k).toNat else
    if c.kd k = 5 then hv c o l (c.a k).toNat && hv c o l (c.b k).toNat else if c.kd k = 6 then hv c o l (c.a k).toNat || hv c o l (c.b k).toNat else false := by
  obtain ⟨_, _, g4, g5, _⟩ := nodE_zero (hc k hk)
  have go : ∀ x : Int, x < k → 0 ≤ x → hvF c o l k x.toNat = hv c o l x.toNat := fun x hx hx0 => hvF_same hc _ _ x.toNat (by omega) (by omega) (by omega)
  have gb : c.kd k = 5 ∨ c.kd k = 6 → (0 ≤ c.a k ∧ c.a k < k) ∧ 0 ≤ c.b k ∧ c.b k < k := fun h => by
    have := g5 h
    have := sp_le c (k := (k : Int) - 1) (by omega)
    omega
  have e : hv c o l k = hvF c o l (k + 1) k := rfl
  rw [e]
  simp only [hvF]
  repeat' split
  · rfl
  · rfl
  · rfl
  · rename_i h4
    have := g4 h4
    rw [go _ (by omega) (by omega)]
  · rename_i h5
    have := gb (.inl h5)
    rw [go _ (by omega) (by omega), go (c.b k) (by omega) (by omega)]
  · rename_i h6
    have := gb (.inr h6)
    rw [go _ (by omega) (by omega), go (c.b k) (by omega) (by omega)]
  · rfl
end Go.Proofs.Ytemfikdogdadnaa
