/-
  Large numbers: their words, plain.
-/
import Derived.Test.YtjfnhehjhicnoaaDoorVmO
import Derived.Test.YtjfnhehjhicnoaaDoorLgO
namespace Go.Proofs.YtjfnhehjhicnoaaDoor
open Go.RowKit

/-- word k of a number -/
def dg (A k : Nat) : Nat := A / 4294967296 ^ k % 4294967296
theorem dg_lt (A k : Nat) : dg A k < 4294967296 := Nat.mod_lt _ (by decide)
theorem pw_pos (k : Nat) : 0 < 4294967296 ^ k := Nat.pow_pos (by decide)
theorem pw_succ (k : Nat) : 4294967296 ^ (k + 1) = 4294967296 ^ k * 4294967296 := Nat.pow_succ ..
/-- the number of words -/
def wl (A : Nat) : Nat := if h : A = 0 then 0 else wl (A / 4294967296) + 1
termination_by A
decreasing_by exact Nat.div_lt_self (by omega) (by decide)
theorem wl_le : ∀ {k A : Nat}, wl A ≤ k ↔ A < 4294967296 ^ k
  | 0, A => by
    rw [wl]
    split
    · rename_i h; simp [h]
    · rename_i h; simp; omega
  | k + 1, A => by
    rw [wl]
    split
    · rename_i h; rw [h]; exact ⟨fun _ => pw_pos _, fun _ => Nat.zero_le _⟩
    · rw [Nat.succ_le_succ_iff, wl_le, Nat.div_lt_iff_lt_mul (by decide), pw_succ]
theorem wl_lt {A : Nat} : A < 4294967296 ^ wl A := wl_le.1 (Nat.le_refl _)
theorem wl_ge {A k : Nat} (h : k < wl A) : 4294967296 ^ k ≤ A := Nat.le_of_not_lt fun hk => absurd (wl_le.2 hk) (by omega)
theorem wl_zero : wl 0 = 0 := by rw [wl]; rfl
theorem wl_eq0 {A : Nat} : wl A = 0 ↔ A = 0 := by
  constructor
  · intro h
    have := wl_lt (A := A)
    rw [h] at this
    simpa using this
  · rintro rfl
    exact wl_zero
theorem wl_pos {A : Nat} : 0 < wl A ↔ 0 < A := by
  rw [Nat.pos_iff_ne_zero, Nat.pos_iff_ne_zero, Ne, Ne, wl_eq0]
theorem wl_one {A : Nat} (h0 : 0 < A) (h : A < 4294967296) : wl A = 1 := by
  have h1 := wl_pos.2 h0
  have h2 : wl A ≤ 1 := wl_le.2 (by simpa using h)
  omega
theorem wl_mono {A B : Nat} (h : A ≤ B) : wl A ≤ wl B := wl_le.2 (Nat.lt_of_le_of_lt h wl_lt)
theorem dg_div (A k : Nat) (h : A < 4294967296 ^ (k + 1)) : dg A k = A / 4294967296 ^ k := by
  unfold dg
  apply Nat.mod_eq_of_lt
  rw [Nat.div_lt_iff_lt_mul (pw_pos k), Nat.mul_comm, ← pw_succ]
  exact h
theorem dg_zero {A k : Nat} (h : A < 4294967296 ^ (k + 1)) (h0 : dg A k = 0) : A < 4294967296 ^ k := by
  rw [dg_div A k h] at h0
  exact (Nat.div_eq_zero_iff_lt (pw_pos k)).1 h0
theorem wl_top {A k : Nat} (h : A < 4294967296 ^ (k + 1)) (h0 : dg A k ≠ 0) : wl A = k + 1 := by
  have h1 : wl A ≤ k + 1 := wl_le.2 h
  have h2 : ¬ wl A ≤ k := fun hk => h0 (by
    rw [dg_div A k h]
    exact Nat.div_eq_of_lt (wl_le.1 hk))
  omega
theorem dg_hi {A k : Nat} (h : A < 4294967296 ^ k) : dg A k = 0 := by
  unfold dg
  rw [Nat.div_eq_of_lt h]
theorem dg_0 (A : Nat) : dg A 0 = A % 4294967296 := by
  unfold dg
  rw [Nat.pow_zero, Nat.div_one]
theorem dg_one {A : Nat} (h : A < 4294967296) : dg A 0 = A := by
  rw [dg_0, Nat.mod_eq_of_lt h]
/-- the words below -/
def lw (A k : Nat) : Nat := A % 4294967296 ^ k
theorem lw_zero (A : Nat) : lw A 0 = 0 := by simp [lw, Nat.mod_one]
theorem lw_lt (A k : Nat) : lw A k < 4294967296 ^ k := Nat.mod_lt _ (pw_pos k)
theorem lw_succ (A k : Nat) : lw A (k + 1) = lw A k + dg A k * 4294967296 ^ k := by
  unfold lw dg
  rw [pw_succ, Nat.mod_mul, Nat.mul_comm (4294967296 ^ k)]
theorem lw_all {A k : Nat} (h : A < 4294967296 ^ k) : lw A k = A := Nat.mod_eq_of_lt h
/-- two numbers with the same words below -/
theorem lw_ext {A B : Nat} : ∀ {k : Nat}, (∀ i, i < k → dg A i = dg B i) → lw A k = lw B k
  | 0, _ => by rw [lw_zero, lw_zero]
  | k + 1, h => by
    rw [lw_succ, lw_succ, lw_ext fun i hi => h i (by omega), h k (by omega)]
/-- the number whose word k is given, out of what lies below -/
theorem dg_of {A k c : Nat} {P : Nat} (hc : c < 4294967296) (h : lw A (k + 1) = P) (hp : P / 4294967296 ^ k = c) : dg A k = c := by
  subst hp h
  rw [lw_succ, Nat.add_mul_div_right _ _ (pw_pos k), Nat.div_eq_of_lt (lw_lt A k), Nat.zero_add]

/-- a word's cells -/
def cW (A : Nat) : Nat → Nat → L := fun k _ => .v (.int .u32 ((dg A k : Nat) : Int))
abbrev wdV (n A : Nat) : AV := .c (.sl 1 n (cW A))
abbrev wdN (A : Nat) : AV := wdV (wl A) A
abbrev u32V (n : Int) : AV := .c (.v (.int .u32 n))
abbrev u64V (n : Int) : AV := .c (.v (.int .u64 n))
/-- a number, its sign and its words -/
def igA (m : Bool) (A : Nat) : List AV := [boolV m, wdN A]
def igI (x : Int) : List AV := igA (decide (x < 0)) x.natAbs

theorem wr32 {x : Nat} : IntKind.u32.wrap ((x : Nat) : Int) = ((x % 4294967296 : Nat) : Int) := by
  rw [IntKind.wrap_u32]
  omega
theorem wr32_id {x : Nat} (h : x < 4294967296) : IntKind.u32.wrap ((x : Nat) : Int) = ((x : Nat) : Int) := by
  rw [wr32, Nat.mod_eq_of_lt h]
theorem wr64 {x : Nat} (h : x < 18446744073709551616) : IntKind.u64.wrap ((x : Nat) : Int) = ((x : Nat) : Int) := by
  rw [IntKind.wrap_u64]
  omega
theorem or64 {a b : Nat} (ha : a < 4294967296) (hb : b < 4294967296) : orI .u64 (shlI .u64 ((a : Nat) : Int) 32) ((b : Nat) : Int) = ((a * 4294967296 + b : Nat) : Int) := by
  have h1 : shlI .u64 ((a : Nat) : Int) 32 = ((a * 4294967296 : Nat) : Int) := by
    show IntKind.u64.wrap ((a : Int) * 2 ^ 32) = _
    rw [show ((a : Int) * 2 ^ 32) = ((a * 4294967296 : Nat) : Int) by rw [Int.natCast_mul]; rfl]
    exact wr64 (by omega)
  rw [h1]
  show IntKind.u64.wrap (((BitVec.ofInt 64 ((a * 4294967296 : Nat) : Int) ||| BitVec.ofInt 64 ((b : Nat) : Int)).toNat : Nat) : Int) = _
  have h2 : (BitVec.ofInt 64 ((a * 4294967296 : Nat) : Int) ||| BitVec.ofInt 64 ((b : Nat) : Int)).toNat = a * 4294967296 + b := by
    rw [BitVec.toNat_or, BitVec.ofInt_natCast, BitVec.ofInt_natCast, BitVec.toNat_ofNat, BitVec.toNat_ofNat, Nat.mod_eq_of_lt (by omega), Nat.mod_eq_of_lt (by omega)]
    have h3 := Nat.shiftLeft_add_eq_or_of_lt (i := 32) (b := b) (by simpa using hb) a
    rw [Nat.shiftLeft_eq] at h3
    exact h3.symm
  rw [h2]
  exact wr64 (by omega)
theorem shr64 {x : Nat} : shrI .u64 ((x : Nat) : Int) 32 = ((x / 4294967296 : Nat) : Int) := by
  show Int.fdiv (x : Int) (2 ^ 32) = _
  rw [Int.fdiv_eq_ediv_of_nonneg _ (by decide)]
  rfl
end Go.Proofs.YtjfnhehjhicnoaaDoor
