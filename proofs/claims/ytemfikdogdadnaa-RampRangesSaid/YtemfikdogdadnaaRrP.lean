/-
  Ramps: the powers that can be reached; of numbers alone.
-/
import Derived.Test.YtemfikdogdadnaaPur
namespace Go.Proofs.Ytemfikdogdadnaa
open Go.RowKit

structure Rmr where
  now : Int
  up : Int
  dn : Int
  m : Nat
  lo : Nat → Int
  hi : Nat → Int
def rrOk (s : Rmr) : Prop := (∀ k, k < s.m → 0 ≤ s.lo k ∧ s.lo k ≤ s.hi k ∧ s.hi k ≤ 100000) ∧ (0 ≤ s.now ∧ s.now ≤ 100000) ∧ (0 ≤ s.up ∧ s.up ≤ 100000) ∧ 0 ≤ s.dn ∧ s.dn ≤ 100000
/-- all powers are small -/
def rrS (s : Rmr) : Prop := s.now ≤ 40 ∧ ∀ k, k < s.m → s.hi k ≤ 40
/-- the powers at time t: from and to -/
def rA (s : Rmr) : Nat → Int
  | 0 => s.now
  | t + 1 => max (s.lo t) (rA s t - s.dn)
def rB (s : Rmr) : Nat → Int
  | 0 => s.now
  | t + 1 => min (s.hi t) (rB s t + s.up)
def rFine (s : Rmr) (t : Nat) : Prop := ∀ j, j < t → rA s (j + 1) ≤ rB s (j + 1)
theorem rAB {s : Rmr} (h : rrOk s) {t : Nat} (ht : t ≤ s.m) (hf : rFine s t) : 0 ≤ rA s t ∧ rA s t ≤ rB s t ∧ rB s t ≤ 100000 := by
  obtain ⟨h1, h2, h3, h4, h5⟩ := h
  cases t with
  | zero => simp only [rA, rB]; omega
  | succ t =>
    have := hf t (Nat.lt_succ_self t)
    have := h1 t (by omega)
    simp only [rA, rB] at *
    omega
theorem rAB40 {s : Rmr} (h : rrOk s) (hs : rrS s) {t : Nat} (ht : t ≤ s.m) : rB s t ≤ 40 := by
  cases t with
  | zero => simp only [rB]; exact hs.1
  | succ t =>
    have := hs.2 t (by omega)
    simp only [rB]
    omega
/-- d steps before the end -/
def cL (s : Rmr) : Nat → Int
  | 0 => rA s s.m
  | d + 1 => max (rA s (s.m - (d + 1))) (cL s d - s.up)
def cH (s : Rmr) : Nat → Int
  | 0 => rB s s.m
  | d + 1 => min (rB s (s.m - (d + 1))) (cH s d + s.dn)
theorem cLH {s : Rmr} (h : rrOk s) (hf : rFine s s.m) : ∀ {d : Nat}, d ≤ s.m → rA s (s.m - d) ≤ cL s d ∧ cL s d ≤ cH s d ∧ cH s d ≤ rB s (s.m - d)
  | 0, _ => by
    have := rAB h (Nat.le_refl _) hf
    simp only [cL, cH, Nat.sub_zero]
    omega
  | d + 1, hd => by
    have ih := cLH h hf (d := d) (by omega)
    have h0 := rAB h (t := s.m - (d + 1)) (by omega) (fun j hj => hf j (by omega))
    obtain ⟨h1, h2, h3, h4, h5⟩ := h
    obtain ⟨t, ht⟩ : ∃ t, s.m - d = t + 1 := ⟨s.m - d - 1, by omega⟩
    have ht' : s.m - (d + 1) = t := by omega
    rw [ht] at ih
    rw [ht'] at h0 ⊢
    simp only [cL, cH, ht']
    have e1 : rA s (t + 1) = max (s.lo t) (rA s t - s.dn) := rfl
    have e2 : rB s (t + 1) = min (s.hi t) (rB s t + s.up) := rfl
    omega
theorem cLH_b {s : Rmr} (h : rrOk s) (hf : rFine s s.m) {d : Nat} (hd : d ≤ s.m) : 0 ≤ cL s d ∧ cL s d ≤ 100000 ∧ 0 ≤ cH s d ∧ cH s d ≤ 100000 := by
  have h1 := cLH h hf hd
  have h2 := rAB h (t := s.m - d) (by omega) (fun j hj => hf j (by omega))
  omega

def bex (p : Nat → Bool) : Nat → Bool
  | 0 => false
  | n + 1 => bex p n || p n
theorem bex_iff {p : Nat → Bool} : ∀ {n : Nat}, bex p n = true ↔ ∃ k, k < n ∧ p k = true
  | 0 => ⟨fun h => Bool.noConfusion h, fun ⟨k, h, _⟩ => absurd h (Nat.not_lt_zero _)⟩
  | n + 1 => by
    simp only [bex, Bool.or_eq_true, bex_iff (n := n)]
    constructor
    · rintro (⟨k, h1, h2⟩ | h)
      · exact ⟨k, by omega, h2⟩
      · exact ⟨n, by omega, h⟩
    · rintro ⟨k, h1, h2⟩
      rcases Nat.lt_succ_iff_lt_or_eq.1 h1 with h | rfl
      · exact .inl ⟨k, h, h2⟩
      · exact .inr h2
/-- the way from a power to the next -/
def stB (s : Rmr) (t k b : Nat) : Bool := inB k (s.lo t) (s.hi t) && inB ((k : Int) - b) (-s.dn) s.up
/-- the reference's sets, forward -/
def rF (s : Rmr) : Nat → Nat → Bool
  | 0, k => decide ((k : Int) = s.now)
  | t + 1, k => bex (fun b => (rF s t b && inB k (s.lo t) (s.hi t)) && inB ((k : Int) - b) (-s.dn) s.up) 41
theorem rF_fw {s : Rmr} : ∀ {t k : Nat}, rF s t k = true → rA s t ≤ k ∧ (k : Int) ≤ rB s t
  | 0, k, h => by
    have := of_decide_eq_true h
    simp only [rA, rB]
    omega
  | t + 1, k, h => by
    obtain ⟨b, h1, h2⟩ := bex_iff.1 h
    simp only [inB, Bool.and_eq_true, decide_eq_true_eq] at h2
    have := rF_fw h2.1.1
    simp only [rA, rB]
    omega
theorem rF_iff {s : Rmr} (h : rrOk s) (hs : rrS s) : ∀ {t : Nat}, t ≤ s.m → rFine s t → ∀ {k : Nat}, rF s t k = true ↔ rA s t ≤ k ∧ (k : Int) ≤ rB s t
  | 0, _, _, k => ⟨rF_fw, fun h => decide_eq_true (by simp only [rA, rB] at h; omega)⟩
  | t + 1, ht, hf, k => by
    refine ⟨rF_fw, fun hk => bex_iff.2 ?_⟩
    have hab := rAB h (t := t) (by omega) (fun j hj => hf j (by omega))
    have h40 := rAB40 h hs (t := t) (by omega)
    obtain ⟨h1, h2, h3, h4, h5⟩ := h
    simp only [rA, rB] at hk
    refine ⟨(max (rA s t) ((k : Int) - s.up)).toNat, by omega, ?_⟩
    simp only [inB, Bool.and_eq_true, decide_eq_true_eq]
    exact ⟨⟨(rF_iff ⟨h1, h2, h3, h4, h5⟩ hs (by omega) (fun j hj => hf j (by omega))).2 (by omega), by omega⟩, by omega⟩
theorem rF_none {s : Rmr} : ∀ {t : Nat}, ¬ rFine s t → ∀ k, rF s t k = false
  | 0, h, k => absurd (fun j hj => absurd hj (Nat.not_lt_zero j)) h
  | t + 1, h, k => by
    refine Bool.eq_false_iff.2 fun hk => ?_
    by_cases hf : rFine s t
    · have := rF_fw hk
      refine h fun j hj => ?_
      rcases Nat.lt_succ_iff_lt_or_eq.1 hj with hj | rfl
      · exact hf j hj
      · omega
    · obtain ⟨b, _, h2⟩ := bex_iff.1 hk
      simp only [Bool.and_eq_true] at h2
      rw [rF_none hf b] at h2
      exact Bool.noConfusion h2.1.1
/-- backward: from which the end can be reached; d steps before it -/
def rG (s : Rmr) : Nat → Nat → Bool
  | 0, k => rF s s.m k
  | d + 1, k => rF s (s.m - (d + 1)) k && bex (fun b => rG s d b && inB ((b : Int) - k) (-s.dn) s.up) 41
theorem rG_iff {s : Rmr} (h : rrOk s) (hs : rrS s) (hf : rFine s s.m) : ∀ {d : Nat}, d ≤ s.m → ∀ {k : Nat}, rG s d k = true ↔ cL s d ≤ k ∧ (k : Int) ≤ cH s d
  | 0, _, k => rF_iff h hs (Nat.le_refl _) hf
  | d + 1, hd, k => by
    have hc := cLH h hf (d := d) (by omega)
    have h40 := rAB40 h hs (t := s.m - d) (by omega)
    have hb := cLH_b h hf (d := d) (by omega)
    simp only [rG, cL, cH, Bool.and_eq_true, bex_iff]
    rw [rF_iff h hs (by omega) (fun j hj => hf j (by omega))]
    obtain ⟨h1, h2, h3, h4, h5⟩ := h
    constructor
    · rintro ⟨g1, b, g2, g3, g4⟩
      have := (rG_iff ⟨h1, h2, h3, h4, h5⟩ hs hf (by omega)).1 g3
      simp only [inB, Bool.and_eq_true, decide_eq_true_eq] at g4
      omega
    · rintro ⟨g1, g2⟩
      refine ⟨by omega, (max (cL s d) ((k : Int) - s.dn)).toNat, by omega, (rG_iff ⟨h1, h2, h3, h4, h5⟩ hs hf (by omega)).2 (by omega), ?_⟩
      simp only [inB, Bool.and_eq_true, decide_eq_true_eq]
      omega
/-- the first and the last one -/
def lwF (p : Nat → Bool) : Nat → Int
  | 0 => -1
  | k + 1 => if p k = true then (if lwF p k < 0 then (k : Int) else lwF p k) else lwF p k
def hwF (p : Nat → Bool) : Nat → Int
  | 0 => -1
  | k + 1 => if p k = true then (k : Int) else hwF p k
theorem lwF_b {p : Nat → Bool} : ∀ {n : Nat}, -1 ≤ lwF p n ∧ lwF p n < n
  | 0 => by simp only [lwF]; omega
  | n + 1 => by
    have := lwF_b (p := p) (n := n)
    simp only [lwF]
    split
    · split <;> omega
    · omega
theorem hwF_b {p : Nat → Bool} : ∀ {n : Nat}, -1 ≤ hwF p n ∧ hwF p n < n
  | 0 => by simp only [hwF]; omega
  | n + 1 => by
    have := hwF_b (p := p) (n := n)
    simp only [hwF]
    split <;> omega
theorem lw_iv {p : Nat → Bool} {a b : Int} (h0 : 0 ≤ a) (hab : a ≤ b) : ∀ {n : Nat}, (∀ k, k < n → (p k = true ↔ a ≤ (k : Int) ∧ (k : Int) ≤ b)) → lwF p n = if (n : Int) ≤ a then -1 else a
  | 0, _ => by rw [if_pos (by omega)]; rfl
  | n + 1, h => by
    have ih := lw_iv h0 hab (n := n) fun k hk => h k (by omega)
    have hn := h n (Nat.lt_succ_self n)
    simp only [lwF]
    by_cases c : p n = true
    · rw [if_pos c, ih]
      have := hn.1 c
      by_cases c2 : (n : Int) ≤ a
      · rw [if_pos c2, if_pos (by omega), if_neg (by omega)]; omega
      · rw [if_neg c2, if_neg (by omega), if_neg (by omega)]
    · rw [if_neg c, ih]
      have : ¬ (a ≤ (n : Int) ∧ (n : Int) ≤ b) := fun h => c (hn.2 h)
      by_cases c2 : (n : Int) ≤ a
      · rw [if_pos c2, if_pos (by omega)]
      · rw [if_neg c2, if_neg (by omega)]
theorem hw_iv {p : Nat → Bool} {a b : Int} (h0 : 0 ≤ a) (hab : a ≤ b) : ∀ {n : Nat}, (∀ k, k < n → (p k = true ↔ a ≤ (k : Int) ∧ (k : Int) ≤ b)) → hwF p n = if (n : Int) ≤ a then -1 else min b (n - 1)
  | 0, _ => by rw [if_pos (by omega)]; rfl
  | n + 1, h => by
    have ih := hw_iv h0 hab (n := n) fun k hk => h k (by omega)
    have hn := h n (Nat.lt_succ_self n)
    simp only [hwF]
    by_cases c : p n = true
    · rw [if_pos c]
      have := hn.1 c
      rw [if_neg (by omega)]
      omega
    · rw [if_neg c, ih]
      have : ¬ (a ≤ (n : Int) ∧ (n : Int) ≤ b) := fun h => c (hn.2 h)
      by_cases c2 : (n : Int) ≤ a
      · rw [if_pos c2, if_pos (by omega)]
      · rw [if_neg c2, if_neg (by omega)]; omega
theorem lw_none {p : Nat → Bool} : ∀ {n : Nat}, (∀ k, k < n → p k = false) → lwF p n = -1
  | 0, _ => rfl
  | n + 1, h => by
    simp only [lwF]
    rw [h n (Nat.lt_succ_self n), if_neg (by decide)]
    exact lw_none fun k hk => h k (by omega)
end Go.Proofs.Ytemfikdogdadnaa
