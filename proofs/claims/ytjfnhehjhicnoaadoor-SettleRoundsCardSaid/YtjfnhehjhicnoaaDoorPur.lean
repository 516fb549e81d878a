/-
  Sums, first errors, first places; of numbers alone.
-/
import Derived.Test.YtjfnhehjhicnoaaDoorVmO
namespace Go.Proofs.YtjfnhehjhicnoaaDoor
open Go.RowKit

/-- the sum of the first k -/
def S (p : Nat → Int) : Nat → Int
  | 0 => 0
  | k + 1 => S p k + p k

theorem S_le {p : Nat → Int} {a b : Int} : ∀ {k : Nat}, (∀ i, i < k → a ≤ p i ∧ p i ≤ b) → a * k ≤ S p k ∧ S p k ≤ b * k
  | 0, _ => by simp [S]
  | k + 1, h => by
    have h1 := S_le (k := k) fun i hi => h i (by omega)
    have h2 := h k (by omega)
    simp only [S]
    rw [Int.natCast_add, Int.mul_add, Int.mul_add]
    omega
theorem S_mono {p : Nat → Int} {i j : Nat} (h : ∀ k, k < j → 0 ≤ p k) (hij : i ≤ j) : S p i ≤ S p j := by
  induction j with
  | zero => obtain rfl : i = 0 := by omega
            exact Int.le_refl _
  | succ j ih =>
    rcases Nat.eq_or_lt_of_le hij with rfl | hlt
    · exact Int.le_refl _
    · have := ih (fun k hk => h k (by omega)) (by omega)
      have := h j (by omega)
      simp only [S]
      omega

theorem S_congr {f g : Nat → Int} {n : Nat} (h : ∀ k, k < n → f k = g k) : S f n = S g n := by
  induction n with
  | zero => rfl
  | succ n ih => simp only [S]; rw [ih fun k hk => h k (by omega), h n (by omega)]

theorem mulB {a b A B : Int} (h0 : 0 ≤ a) (h1 : a ≤ A) (h2 : -B ≤ b) (h3 : b ≤ B) (hB : 0 ≤ B) : -(A * B) ≤ a * b ∧ a * b ≤ A * B := by
  have e1 : a * b ≤ a * B := Int.mul_le_mul_of_nonneg_left h3 h0
  have e2 : a * B ≤ A * B := Int.mul_le_mul_of_nonneg_right h1 hB
  have e3 : a * -B ≤ a * b := Int.mul_le_mul_of_nonneg_left h2 h0
  rw [Int.mul_neg] at e3
  omega


/-- the first that is not 0 -/
def fst (e : Nat → Int) : Nat → Int
  | 0 => 0
  | k + 1 => if fst e k ≠ 0 then fst e k else e k
theorem fst_at {e : Nat → Int} {i : Nat} (h0 : fst e i = 0) (he : e i ≠ 0) : ∀ {n : Nat}, i < n → fst e n = e i
  | n + 1, h => by
    simp only [fst]
    rcases Nat.lt_succ_iff_lt_or_eq.1 h with hlt | rfl
    · rw [fst_at h0 he hlt, if_pos he]
    · simp [h0]
theorem fst_zero {e : Nat → Int} : ∀ {n : Nat}, fst e n = 0 → ∀ k, k < n → e k = 0
  | n + 1, h, k, hk => by
    simp only [fst] at h
    split at h
    · rename_i hn; exact absurd h hn
    · rename_i hn
      rcases Nat.lt_succ_iff_lt_or_eq.1 hk with hlt | rfl
      · exact fst_zero (by simpa using hn) k hlt
      · exact h
theorem fst_of {e : Nat → Int} : ∀ {n : Nat}, (∀ k, k < n → e k = 0) → fst e n = 0
  | 0, _ => rfl
  | n + 1, h => by simp only [fst]; rw [fst_of fun k hk => h k (by omega), h n (by omega)]; rfl

theorem fst_next {e : Nat → Int} {i : Nat} (h0 : fst e i = 0) (he : e i = 0) : fst e (i + 1) = 0 := by simp [fst, h0, he]
theorem fst_eq {e : Nat → Int} {i n : Nat} {c : Int} (h0 : fst e i = 0) (h : i < n) (he : e i = c) (hc : c ≠ 0) : c = fst e n := by
  rw [fst_at h0 (by rw [he]; exact hc) h, he]

/-- the first index of which b is true -/
def ffind (b : Nat → Bool) : Nat → Option Nat
  | 0 => none
  | k + 1 => match ffind b k with
    | some i => some i
    | none => if b k = true then some k else none
theorem ffind_none {b : Nat → Bool} : ∀ {n : Nat}, (∀ k, k < n → b k = false) → ffind b n = none
  | 0, _ => rfl
  | n + 1, h => by simp only [ffind]; rw [ffind_none fun k hk => h k (by omega)]; simp [h n (by omega)]
theorem ffind_at {b : Nat → Bool} {i : Nat} (h0 : ∀ k, k < i → b k = false) (hb : b i = true) : ∀ {n : Nat}, i < n → ffind b n = some i
  | n + 1, h => by
    simp only [ffind]
    rcases Nat.lt_succ_iff_lt_or_eq.1 h with hlt | rfl
    · rw [ffind_at h0 hb hlt]
    · rw [ffind_none h0]; simp [hb]

/-- the index of the first, or -1 -/
def fidx (b : Nat → Bool) (n : Nat) : Int := match ffind b n with
  | some i => i
  | none => -1
theorem fidx_at {b : Nat → Bool} {i n : Nat} (h0 : ∀ k, k < i → b k = false) (hb : b i = true) (h : i < n) : fidx b n = i := by
  unfold fidx
  rw [ffind_at h0 hb h]
theorem fidx_none {b : Nat → Bool} {n : Nat} (h : ∀ k, k < n → b k = false) : fidx b n = -1 := by
  unfold fidx
  rw [ffind_none h]

/-- the name of offer k is this one -/
def sameN (s : Nat → ByteArray) (nm : ByteArray) (k : Nat) : Bool := (s k).toList == nm.toList

/-- one of the first n has this name -/
def dupB (s : Nat → ByteArray) (nm : ByteArray) (n : Nat) : Bool := decide (fidx (sameN s nm) n ≥ 0)
theorem dup_true {s : Nat → ByteArray} {nm : ByteArray} {i n : Nat} (h0 : ∀ k, k < i → sameN s nm k = false) (hb : sameN s nm i = true) (h : i < n) : dupB s nm n = true := by
  unfold dupB
  rw [fidx_at h0 hb h]
  simp
theorem dup_false {s : Nat → ByteArray} {nm : ByteArray} {n : Nat} (h : ∀ k, k < n → sameN s nm k = false) : dupB s nm n = false := by
  unfold dupB
  rw [fidx_none h]
  rfl

theorem ffind_none' {b : Nat → Bool} : ∀ {n : Nat}, ffind b n = none → ∀ k, k < n → b k = false
  | n + 1, h, k, hk => by
    simp only [ffind] at h
    split at h
    · cases h
    · rename_i h0
      split at h
      · cases h
      · rename_i h1
        rcases Nat.lt_succ_iff_lt_or_eq.1 hk with hlt | rfl
        · exact ffind_none' h0 k hlt
        · simpa using h1
theorem fidx_neg {b : Nat → Bool} {n : Nat} (h : ¬ fidx b n ≥ 0) : ∀ k, k < n → b k = false := by
  unfold fidx at h
  split at h
  · omega
  · rename_i h0; exact ffind_none' h0

theorem ffind_lt {b : Nat → Bool} {i : Nat} : ∀ {n : Nat}, ffind b n = some i → i < n
  | n + 1, h => by
    simp only [ffind] at h
    split at h
    · rename_i j hj
      injection h with h; subst h
      have := ffind_lt hj
      omega
    · split at h
      · injection h with h; omega
      · cases h
theorem fidx_up (b : Nat → Bool) (n : Nat) : fidx b n < n := by
  unfold fidx
  split
  · rename_i i hi
    have := ffind_lt hi
    omega
  · omega
def lN : L → Nat
  | .sl _ n _ => n
  | _ => 0
def lF : L → Nat → Nat → L
  | .sl _ _ f => f
  | _ => fun _ _ => .un
theorem Le1.tup {bs' bs : List AV} (h : Le bs' bs) : Le1 (.tup bs') (.tup bs) := fun σ I w v hd => by
  simp only [Den] at hd ⊢
  obtain ⟨us, e, h1⟩ := hd
  exact ⟨us, e, h _ _ _ _ h1⟩
theorem Le1.nil {sz : Nat} {f : Nat → Nat → L} : Le1 (.c (.v (.slice none 0 0))) (.c (.sl sz 0 f)) := fun σ I w v hd => by
  simp only [Den, L.rd] at hd ⊢
  obtain ⟨rfl, _⟩ := hd
  exact ⟨none, 0, rfl, Nat.le_refl _, Nat.zero_le _, fun h => absurd h (Nat.lt_irrefl 0)⟩

end Go.Proofs.YtjfnhehjhicnoaaDoor
