/-
  Large numbers: division of two words by two words.
-/
import Derived.Test.YtjfnhehjhicnoaaDoorLgF
import Derived.Test.YtjfnhehjhicnoaaDoorLgD
import Derived.Test.YtjfnhehjhicnoaaDoorLgG
namespace Go.Proofs.YtjfnhehjhicnoaaDoor
open Go.RowKit

/-- what is carried into word k of a shifted number -/
def shC (A s k : Nat) : Nat := mCy 0 (2 ^ s) A 0 k
theorem shC_lt (A s k : Nat) : shC A s k < 2 ^ s := by
  unfold shC mCy
  rw [Nat.div_lt_iff_lt_mul (pw_pos _), Nat.zero_add]
  have h0 : lw 0 k = 0 := by
    unfold lw
    rw [Nat.zero_mod]
  rw [h0, Nat.zero_add, Nat.pow_zero, Nat.mul_one]
  exact (Nat.mul_lt_mul_left (Nat.pow_pos (by decide))).2 (lw_lt A k)
theorem sh_step {A s k : Nat} (hs : s < 32) : (dg A k * 2 ^ s + shC A s k) % 4294967296 = dg (A * 2 ^ s) k ∧ (dg A k * 2 ^ s + shC A s k) / 4294967296 = shC A s (k + 1) := by
  have hp : 2 ^ s < 4294967296 := Nat.pow_lt_pow_right (by decide) hs
  obtain ⟨h1, h2⟩ := mu_step 0 (2 ^ s) A 0 k hp
  have h0 : dg 0 (0 + k) = 0 := by
    unfold dg
    rw [Nat.zero_div]
  rw [h0, Nat.zero_add, Nat.zero_add, Nat.zero_add, Nat.pow_zero, Nat.mul_one] at h1
  rw [h0, Nat.zero_add] at h2
  have e : dg A k * 2 ^ s + shC A s k = shC A s k + 2 ^ s * dg A k := by
    rw [Nat.mul_comm]
    omega
  rw [e, Nat.mul_comm A]
  exact ⟨h1, h2⟩
theorem sh_zero (A s : Nat) : shC A s 0 = 0 := mu_zero ..
/-- the bits of a shifted word and of what is carried -/
theorem orS {c x s : Nat} (hs : s < 32) (hc : c < 2 ^ s) (hx : x < 4294967296) : orI .u64 ((c : Nat) : Int) (shlI .u64 ((x : Nat) : Int) ((s : Nat) : Int)) = ((x * 2 ^ s + c : Nat) : Int) := by
  have hp : 2 ^ s ≤ 2147483648 := Nat.pow_le_pow_right (n := 2) (j := 31) (by decide) (by omega)
  have hm : x * 2 ^ s ≤ 4294967295 * 2147483648 := Nat.mul_le_mul (by omega) hp
  have h1 : shlI .u64 ((x : Nat) : Int) ((s : Nat) : Int) = ((x * 2 ^ s : Nat) : Int) := by
    show IntKind.u64.wrap ((x : Int) * 2 ^ (min s 64)) = _
    rw [Nat.min_eq_left (by omega), show ((x : Int) * 2 ^ s) = ((x * 2 ^ s : Nat) : Int) by rw [Int.natCast_mul, Int.natCast_pow]; rfl]
    exact wr64 (by omega)
  rw [h1]
  show IntKind.u64.wrap (((BitVec.ofInt 64 ((c : Nat) : Int) ||| BitVec.ofInt 64 ((x * 2 ^ s : Nat) : Int)).toNat : Nat) : Int) = _
  have h2 : (BitVec.ofInt 64 ((c : Nat) : Int) ||| BitVec.ofInt 64 ((x * 2 ^ s : Nat) : Int)).toNat = x * 2 ^ s + c := by
    rw [BitVec.toNat_or, BitVec.ofInt_natCast, BitVec.ofInt_natCast, BitVec.toNat_ofNat, BitVec.toNat_ofNat, Nat.mod_eq_of_lt (by omega), Nat.mod_eq_of_lt (by omega)]
    have h3 := Nat.shiftLeft_add_eq_or_of_lt (i := s) (b := c) hc x
    rw [Nat.shiftLeft_eq] at h3
    rw [Nat.or_comm]
    exact h3.symm
  rw [h2]
  exact wr64 (by omega)
theorem shrS {x s : Nat} (hs : s ≤ 64) : shrI .u64 ((x : Nat) : Int) ((s : Nat) : Int) = ((x / 2 ^ s : Nat) : Int) := by
  show Int.fdiv (x : Int) (2 ^ (min s 64)) = _
  rw [Nat.min_eq_left hs, Int.fdiv_eq_ediv_of_nonneg _ (Int.le_of_lt (Int.pow_pos (by decide))), Int.natCast_ediv, Int.natCast_pow]
  rfl
/-- a word of a number that was shifted up -/
theorem unsh {X s k : Nat} (hs : s < 32) : (dg (X * 2 ^ s) (k + 1) * 4294967296 + dg (X * 2 ^ s) k) / 2 ^ s % 4294967296 = dg X k := by
  have hp : 0 < 2 ^ s := Nat.pow_pos (by decide)
  have h1 : dg (X * 2 ^ s) (k + 1) * 4294967296 + dg (X * 2 ^ s) k = X * 2 ^ s / 4294967296 ^ k % (4294967296 * 4294967296) := by
    unfold dg
    rw [Nat.mod_mul, pw_succ, ← Nat.div_div_eq_div_mul, Nat.mul_comm 4294967296]
    omega
  have e32 : 4294967296 * 4294967296 = 2 ^ s * (4294967296 * 2 ^ (32 - s)) := by
    have : 2 ^ s * 2 ^ (32 - s) = 4294967296 := by rw [← Nat.pow_add, show s + (32 - s) = 32 by omega]
    calc 4294967296 * 4294967296 = 4294967296 * (2 ^ s * 2 ^ (32 - s)) := by rw [this]
      _ = _ := by rw [Nat.mul_left_comm]
  rw [h1, e32, Nat.mod_mul_right_div_self, Nat.mod_mul_right_mod]
  unfold dg
  rw [Nat.div_div_eq_div_mul, Nat.mul_comm (4294967296 ^ k), ← Nat.div_div_eq_div_mul, Nat.mul_div_cancel _ hp]
/-- two words -/
theorem two_w {A : Nat} (h : A < 4294967296 ^ 2) : A = dg A 1 * 4294967296 + dg A 0 := by
  have h1 := dg_div A 1 h
  have h2 := dg_0 A
  rw [Nat.pow_one] at h1
  omega
theorem three_w {A : Nat} (h : A < 4294967296 ^ 3) : A = (dg A 2 * 4294967296 + dg A 1) * 4294967296 + dg A 0 := by
  have h1 := dg_div A 2 h
  have h2 := dg_0 A
  unfold dg at *
  rw [Nat.pow_one]
  omega
/-- the trial quotient -/
def kT (A : Nat) : Nat := dg A 2 * 4294967296 + dg A 1
section
variable {A B g r : Nat}
theorem kn_first (hA : A < 4294967296 ^ 3) (hv : 0 < dg B 1) (hB : B < 4294967296 ^ 2) : A / B ≤ kT A / dg B 1 := by
  have hA3 := three_w hA
  have hB2 := two_w hB
  have hB0 : 0 < B := by omega
  have h1 : A / B * B ≤ A := Nat.div_mul_le_self A B
  rw [Nat.le_div_iff_mul_le hv]
  unfold kT
  generalize A / B = q at *
  have hu := dg_lt A 0
  have h2 : q * (dg B 1 * 4294967296) ≤ q * B := Nat.mul_le_mul_left q (by omega)
  rw [← Nat.mul_assoc] at h2
  generalize q * dg B 1 = z at *
  omega
theorem kn_stop (hA : A < 4294967296 ^ 3) (hv : 0 < dg B 1) (hB : B < 4294967296 ^ 2) (hg : A / B ≤ g) (ht : g * dg B 1 + r = kT A) (hc : g * dg B 0 ≤ r * 4294967296 + dg A 0) : g = A / B := by
  have hA3 := three_w hA
  have hB2 := two_w hB
  have hB0 : 0 < B := by omega
  have h1 : g ≤ A / B := by
    rw [Nat.le_div_iff_mul_le hB0]
    have e : g * B = g * dg B 1 * 4294967296 + g * dg B 0 := by
      conv => lhs; rw [hB2]
      rw [Nat.mul_add, ← Nat.mul_assoc]
    rw [e]
    unfold kT at ht
    generalize g * dg B 1 = z at *
    omega
  omega
theorem kn_more (hA : A < 4294967296 ^ 3) (hv : 0 < dg B 1) (hB : B < 4294967296 ^ 2) (ht : g * dg B 1 + r = kT A) (hc : r * 4294967296 + dg A 0 < g * dg B 0) : A / B < g := by
  have hA3 := three_w hA
  have hB2 := two_w hB
  have hB0 : 0 < B := by omega
  rw [Nat.div_lt_iff_lt_mul hB0]
  have e : g * B = g * dg B 1 * 4294967296 + g * dg B 0 := by
    conv => lhs; rw [hB2]
    rw [Nat.mul_add, ← Nat.mul_assoc]
  rw [e]
  unfold kT at ht
  generalize g * dg B 1 = z at *
  omega
end
theorem kn_pre {A B s : Nat} (hA : A < 4294967296 ^ 2) (hs : s < 32) (hs1 : 2147483648 ≤ dg B 1 * 2 ^ s) (hs2 : dg B 1 * 2 ^ s < 4294967296) (hB : B < 4294967296 ^ 2) :
    A * 2 ^ s < 4294967296 ^ 3 ∧ B * 2 ^ s < 4294967296 ^ 2 ∧ 2147483648 ≤ dg (B * 2 ^ s) 1 ∧ kT (A * 2 ^ s) < dg (B * 2 ^ s) 1 * 4294967296 ∧ A * 2 ^ s / (B * 2 ^ s) = A / B ∧ A * 2 ^ s % (B * 2 ^ s) = (A % B) * 2 ^ s ∧ 0 < B * 2 ^ s := by
  have hp : 0 < 2 ^ s := Nat.pow_pos (by decide)
  have hp1 : 2 ^ s ≤ 2 ^ 31 := Nat.pow_le_pow_right (by decide) (by omega)
  have e31 : 2 ^ 31 = 2147483648 := rfl
  rw [e31] at hp1
  have e : 4294967296 = 2 ^ (32 - s) * 2 ^ s := by rw [← Nat.pow_add, show (32 - s) + s = 32 by omega]
  have hB2 := two_w hB
  have hd : dg B 1 < 2 ^ (32 - s) := by
    rw [e] at hs2
    exact (Nat.mul_lt_mul_right hp).1 hs2
  have h1 : (dg B 1 + 1) * 2 ^ s ≤ 4294967296 := by
    conv => rhs; rw [e]
    exact Nat.mul_le_mul_right _ hd
  have hb0 := dg_lt B 0
  have hY1 : B * 2 ^ s < 4294967296 ^ 2 := by
    have : B + 1 ≤ (dg B 1 + 1) * 4294967296 := by omega
    have h2 : (B + 1) * 2 ^ s ≤ (dg B 1 + 1) * 4294967296 * 2 ^ s := Nat.mul_le_mul_right _ this
    have h3 : (dg B 1 + 1) * 4294967296 * 2 ^ s = (dg B 1 + 1) * 2 ^ s * 4294967296 := Nat.mul_right_comm ..
    have h4 : (dg B 1 + 1) * 2 ^ s * 4294967296 ≤ 4294967296 * 4294967296 := Nat.mul_le_mul_right _ h1
    have h5 : B * 2 ^ s < (B + 1) * 2 ^ s := (Nat.mul_lt_mul_right hp).2 (Nat.lt_succ_self B)
    have h6 : 4294967296 ^ 2 = 4294967296 * 4294967296 := rfl
    omega
  have hY0 : 2147483648 ≤ dg (B * 2 ^ s) 1 := by
    rw [dg_div _ 1 hY1, Nat.pow_one]
    have h2 : dg B 1 * 4294967296 * 2 ^ s ≤ B * 2 ^ s := Nat.mul_le_mul_right _ (by omega)
    rw [Nat.mul_right_comm] at h2
    rw [Nat.le_div_iff_mul_le (by decide)]
    exact Nat.le_trans (Nat.mul_le_mul_right _ hs1) h2
  have hX : A * 2 ^ s < 4294967296 ^ 2 * 2 ^ s := (Nat.mul_lt_mul_right hp).2 hA
  have hX3 : A * 2 ^ s < 4294967296 ^ 3 := by
    have h2 : 4294967296 ^ 2 * 2 ^ s ≤ 4294967296 ^ 2 * 4294967296 := Nat.mul_le_mul_left _ (by omega)
    have h3 : 4294967296 ^ 3 = 4294967296 ^ 2 * 4294967296 := rfl
    omega
  refine ⟨hX3, hY1, hY0, ?_, Nat.mul_div_mul_right _ _ hp, Nat.mul_mod_mul_right .., ?_⟩
  · have h2 : dg (A * 2 ^ s) 2 < 2 ^ s := by
      rw [dg_div _ 2 hX3, Nat.div_lt_iff_lt_mul (pw_pos 2), Nat.mul_comm (2 ^ s)]
      exact hX
    have h3 := dg_lt (A * 2 ^ s) 1
    unfold kT
    omega
  · have h0 : 0 < dg B 1 := by
      rcases Nat.eq_zero_or_pos (dg B 1) with h | h
      · rw [h, Nat.zero_mul] at hs1
        omega
      · exact h
    exact Nat.mul_pos (by omega) hp
theorem kn_car (Q Y i : Nat) (hQ : Q < 4294967296) : (mCy 0 Q Y 0 i + Q * dg Y i) % 4294967296 = dg (Q * Y) i ∧ (mCy 0 Q Y 0 i + Q * dg Y i) / 4294967296 = mCy 0 Q Y 0 (i + 1) ∧ mCy 0 Q Y 0 i < 4294967296 := by
  obtain ⟨h1, h2⟩ := mu_step 0 Q Y 0 i hQ
  have h0 : dg 0 (0 + i) = 0 := by
    unfold dg
    rw [Nat.zero_div]
  rw [h0, Nat.zero_add, Nat.zero_add, Nat.zero_add, Nat.pow_zero, Nat.mul_one] at h1
  rw [h0, Nat.zero_add] at h2
  exact ⟨h1, h2, mu_lt 0 Q Y 0 i hQ⟩
theorem and32 {x : Nat} (h : x < 18446744073709551616) : andI .u64 ((x : Nat) : Int) 4294967295 = ((x % 4294967296 : Nat) : Int) := by
  show IntKind.u64.wrap (((BitVec.ofInt 64 ((x : Nat) : Int) &&& BitVec.ofInt 64 4294967295).toNat : Nat) : Int) = _
  have h2 : (BitVec.ofInt 64 ((x : Nat) : Int) &&& BitVec.ofInt 64 4294967295).toNat = x % 4294967296 := by
    rw [BitVec.toNat_and, BitVec.ofInt_natCast, BitVec.toNat_ofNat, Nat.mod_eq_of_lt (by omega)]
    exact Nat.and_two_pow_sub_one_eq_mod x 32
  rw [h2]
  exact wr64 (by omega)
theorem kn_wu {u p b : Nat} (hu : u < 4294967296) (hp : p < 4294967296) (hb : b ≤ 1) : IntKind.i64.wrap (((u : Nat) : Int) - ((p : Nat) : Int)) = ((u : Nat) : Int) - ((p : Nat) : Int) ∧ IntKind.i64.wrap (-((b : Nat) : Int) + (((u : Nat) : Int) - ((p : Nat) : Int))) = ((u : Nat) : Int) - b - p :=
  ⟨wr_id (by omega) (by omega), (wr_id (by omega) (by omega)).trans (by omega)⟩
theorem kn_wm {c m : Nat} (hc : c < 4294967296) (hm : m ≤ 18446744065119617025) : IntKind.u64.wrap ((m : Nat) : Int) = ((m : Nat) : Int) ∧ IntKind.u64.wrap (((c : Nat) : Int) + ((m : Nat) : Int)) = ((c + m : Nat) : Int) ∧ c + m < 18446744073709551616 := by
  refine ⟨wr64 (by omega), ?_, by omega⟩
  rw [← Int.natCast_add]
  exact wr64 (by omega)
theorem kn_w {c q y u p b b' x n : Nat} (hc : c < 4294967296) (hq : q < 4294967296) (hy : y < 4294967296) (hu : u < 4294967296) (hx : x < 4294967296) (hb : b ≤ 1) (hb' : b' ≤ 1) (hp : (c + q * y) % 4294967296 = p) (hn : (c + q * y) / 4294967296 = n) (hs : (u : Int) - b - p = (x : Int) - (b' : Int) * 4294967296) :
    IntKind.u64.wrap ((y : Nat) : Int) = ((y : Nat) : Int) ∧ IntKind.u64.wrap (((q : Nat) : Int) * ((y : Nat) : Int)) = ((q * y : Nat) : Int) ∧ IntKind.u64.wrap (((c : Nat) : Int) + ((q * y : Nat) : Int)) = ((c + q * y : Nat) : Int) ∧ andI .u64 ((c + q * y : Nat) : Int) 4294967295 = ((p : Nat) : Int) ∧
    IntKind.i64.wrap ((p : Nat) : Int) = ((p : Nat) : Int) ∧ IntKind.i64.wrap ((u : Nat) : Int) = ((u : Nat) : Int) ∧ IntKind.i64.wrap (((u : Nat) : Int) - ((p : Nat) : Int)) = ((u : Nat) : Int) - ((p : Nat) : Int) ∧ IntKind.i64.wrap (-((b : Nat) : Int) + (((u : Nat) : Int) - ((p : Nat) : Int))) = (x : Int) - (b' : Int) * 4294967296 ∧
    IntKind.u32.wrap ((x : Int) - (b' : Int) * 4294967296) = ((x : Nat) : Int) ∧ shrI .i64 ((x : Int) - (b' : Int) * 4294967296) 32 = -((b' : Nat) : Int) ∧ shrI .u64 ((c + q * y : Nat) : Int) 32 = ((n : Nat) : Int) := by
  have hm : q * y ≤ 4294967295 * 4294967295 := Nat.mul_le_mul (Nat.le_of_lt_succ hq) (Nat.le_of_lt_succ hy)
  have hpl : p < 4294967296 := by rw [← hp]; exact Nat.mod_lt _ (by decide)
  obtain ⟨g1, g2, _, _, g5, g6⟩ := su_w hu hpl hx hb hb' hs
  obtain ⟨g7, g8⟩ := kn_wu hu hpl hb
  obtain ⟨g9, g10, g11⟩ := kn_wm hc hm
  have e0 : ((q : Nat) : Int) * ((y : Nat) : Int) = ((q * y : Nat) : Int) := (Int.natCast_mul q y).symm
  rw [e0]
  exact ⟨wr64 (Nat.lt_trans hy (by decide)), g9, g10, by rw [and32 g11, hp], g2, g1, g7, g8.trans hs, g5, g6, by rw [shr64, hn]⟩
theorem kn_last {X Y : Nat} (hX : X < 4294967296 ^ 3) (hY : Y < 4294967296 ^ 2) : mCy 0 (X / Y) Y 0 2 = dg (X / Y * Y) 2 ∧ sBw X (X / Y * Y) 3 = 0 ∧ X - X / Y * Y = X % Y := by
  have hP : X / Y * Y ≤ X := Nat.div_mul_le_self X Y
  have hP3 : X / Y * Y < 4294967296 ^ 3 := Nat.lt_of_le_of_lt hP hX
  refine ⟨?_, ?_, ?_⟩
  · rw [dg_div _ 2 hP3]
    unfold mCy
    have h0 : lw 0 (0 + 2) = 0 := by
      unfold lw
      rw [Nat.zero_mod]
    rw [h0, Nat.zero_add, Nat.zero_add, Nat.pow_zero, Nat.mul_one, lw_all hY]
  · unfold sBw
    rw [lw_all hX, lw_all hP3, if_neg (Nat.not_lt.2 hP)]
  · have := Nat.div_add_mod' X Y
    exact Nat.sub_eq_of_eq_add (by rw [Nat.add_comm]; exact this.symm)
end Go.Proofs.YtjfnhehjhicnoaaDoor

namespace Go.Proofs.YtjfnhehjhicnoaaDoor
open Go.RowKit

/-- how many bits a number has -/
def bitsOf (x n : Nat) : Prop := 2 ^ n ≤ 2 * x ∧ x < 2 ^ n
theorem bits_sh {x n k : Nat} (h : bitsOf (x / 2 ^ k) n) : bitsOf x (k + n) := by
  obtain ⟨h1, h2⟩ := h
  have hp : 0 < 2 ^ k := Nat.pow_pos (by decide)
  have h3 := Nat.div_add_mod x (2 ^ k)
  have h4 := Nat.mod_lt x hp
  unfold bitsOf
  rw [Nat.pow_add]
  generalize x / 2 ^ k = y at *
  have h5 : 2 ^ k * 2 ^ n ≤ 2 ^ k * (2 * y) := Nat.mul_le_mul_left _ h1
  have h6 : 2 ^ k * (y + 1) ≤ 2 ^ k * 2 ^ n := Nat.mul_le_mul_left _ h2
  rw [Nat.mul_add] at h6
  rw [Nat.mul_left_comm] at h5
  omega
theorem sh32_16 (x : Nat) : shrI .u32 ((x : Nat) : Int) 16 = ((x / 65536 : Nat) : Int) := by
  show Int.fdiv (x : Int) (2 ^ 16) = _
  rw [Int.fdiv_eq_ediv_of_nonneg _ (by decide)]
  rfl
theorem sh32_8 (x : Nat) : shrI .u32 ((x : Nat) : Int) 8 = ((x / 256 : Nat) : Int) := by
  show Int.fdiv (x : Int) (2 ^ 8) = _
  rw [Int.fdiv_eq_ediv_of_nonneg _ (by decide)]
  rfl
theorem u8_id {y : Nat} (h : y < 256) : IntKind.u8.wrap ((y : Nat) : Int) = ((y : Nat) : Int) := by
  show ((y : Nat) : Int) % 256 = _
  omega
set_option maxRecDepth 100000 in
set_option maxHeartbeats 4000000 in
theorem knLen (x : Nat) (hx : x < 4294967296) (h0 : 0 < x) : Fn Tryd.prog 134 [u32V ((x : Nat) : Int)] (fun obs r => obs = [] ∧ ∃ n : Nat, 1 ≤ n ∧ n ≤ 32 ∧ bitsOf x n ∧ r = intV ((n : Nat) : Int)) := by
  refine fn_of_wpx (O := lex) tab_ok gamLg_ok mixed Tryd.func134 (by kernel_rfl) rfl rfl rfl (by simp [Tryd.ntmps134]) (by kernel_rfl) ?_
  conv => whnf
  repeat' (first
    | (refine NilG.mk fun bn hbn hbx => ?_; conv => whnf)
    | (refine Both.mk ?_ ?_ <;> conv => whnf)
    | ((first | (refine MkG.box 1 rfl rfl rfl (by decide) ?_) | (refine MkG.box 2 rfl rfl rfl (by decide) ?_) | (refine MkG.box 3 rfl rfl rfl (by decide) ?_) | (refine MkG.row ?_)); conv => whnf)
    | (refine LitG.row ?_; conv => whnf)
    | exact trivial
    | (refine Br.mk (fun hb => ?_) (fun hb => ?_) <;> (first | (exfalso; revert hb; decide) | ((try simp only [BL] at hb) <;> (try simp only [DL] at hb) <;> (first | (exfalso; omega) | (conv => whnf)))))
    | (refine And.intro ?_ ?_; (focus (first | exact id | exact rfl | exact trivial | (intro hg; first | exact hg | exact rfl | (simp; done) | (simp at hg ⊢; assumption)) | omega | decide | exact is2_c _ _ _ | exact is1_c _ _ | exact isS_c _ _ | exact isB_c _ _ | exact Nat.le_refl _ | assumption | exact mulLe (by decide) (by omega) | exact mulLe2 (by decide) (by omega) (by omega) | (intros; simp only [BL] at *; omega) | (intros; (try simp only [BL] at *); (try simp only [DL] at *); omega) | (intros; simp only [BL] at *; rw [wr_id (by omega) (by omega)]; omega) | (intro h1 h2; exact Bool.and_eq_true_iff.2 ⟨h1, h2⟩) | (intros; simp_all; done))); conv => whnf)
    | (refine Or.inr (And.intro rfl ?_); first | (refine congrArg intV ?_) | (refine congrArg boolV ?_) | (refine tupII ?_ ?_) | (refine tupIII ?_ ?_ ?_) | (refine tupU ?_ ?_ ?_ ?_ ?_) | exact rfl))
  all_goals
    generalize hT : ByteArray.mk _ = T
    have hs : T.size = 256 := by rw [← hT]; rfl
    have htab : ∀ i, i < 256 → 0 < i → bitsOf i (strB T i).toNat ∧ 0 ≤ strB T i ∧ strB T i ≤ 8 ∧ 1 ≤ strB T i := by
      rw [← hT]
      unfold bitsOf
      decide +kernel
    rw [hs]
    clear hT hs
    simp only [sh32_16, sh32_8] at hb ⊢
  · have hy : x / 65536 / 256 < 256 := by omega
    obtain ⟨b1, b2, b3, b4⟩ := htab (x / 65536 / 256) hy (by omega)
    rw [u8_id hy]
    refine And.intro ⟨by omega, by omega⟩ ?_
    clear htab
    conv => whnf
    repeat' (first
      | (refine NilG.mk fun bn hbn hbx => ?_; conv => whnf)
      | (refine Both.mk ?_ ?_ <;> conv => whnf)
      | ((first | (refine MkG.box 1 rfl rfl rfl (by decide) ?_) | (refine MkG.box 2 rfl rfl rfl (by decide) ?_) | (refine MkG.box 3 rfl rfl rfl (by decide) ?_) | (refine MkG.row ?_)); conv => whnf)
      | (refine LitG.row ?_; conv => whnf)
      | exact trivial
      | (refine Br.mk (fun hb => ?_) (fun hb => ?_) <;> (first | (exfalso; revert hb; decide) | ((try simp only [BL] at hb) <;> (try simp only [DL] at hb) <;> (first | (exfalso; omega) | (conv => whnf)))))
      | (refine And.intro ?_ ?_; (focus (first | exact id | exact rfl | exact trivial | (intro hg; first | exact hg | exact rfl | (simp; done) | (simp at hg ⊢; assumption)) | omega | decide | exact is2_c _ _ _ | exact is1_c _ _ | exact isS_c _ _ | exact isB_c _ _ | exact Nat.le_refl _ | assumption | exact mulLe (by decide) (by omega) | exact mulLe2 (by decide) (by omega) (by omega) | (intros; simp only [BL] at *; omega) | (intros; (try simp only [BL] at *); (try simp only [DL] at *); omega) | (intros; simp only [BL] at *; rw [wr_id (by omega) (by omega)]; omega) | (intro h1 h2; exact Bool.and_eq_true_iff.2 ⟨h1, h2⟩) | (intros; simp_all; done))); conv => whnf)
      | (refine Or.inr (And.intro rfl ?_); first | (refine congrArg intV ?_) | (refine congrArg boolV ?_) | (refine tupII ?_ ?_) | (refine tupIII ?_ ?_ ?_) | (refine tupU ?_ ?_ ?_ ?_ ?_) | exact rfl))
    simp only [Int.toNat_natCast]
    generalize strB T (x / 65536 / 256) = z at *
    have w : IntKind.i64.wrap z = z := wr_id (by omega) (by omega)
    have b5 : bitsOf x (24 + z.toNat) := bits_sh (k := 24) (by rw [Nat.div_div_eq_div_mul] at b1; exact b1)
    refine .inr ⟨trivial, 24 + z.toNat, by omega, by omega, b5, congrArg intV ?_⟩
    rw [w, show IntKind.i64.wrap (16 + 8) = 24 from rfl]
    exact (wr_id (by omega) (by omega)).trans (by omega)
  · have hy : x / 65536 < 256 := by omega
    obtain ⟨b1, b2, b3, b4⟩ := htab (x / 65536) hy (by omega)
    rw [u8_id hy]
    refine And.intro ⟨by omega, by omega⟩ ?_
    clear htab
    conv => whnf
    repeat' (first
      | (refine NilG.mk fun bn hbn hbx => ?_; conv => whnf)
      | (refine Both.mk ?_ ?_ <;> conv => whnf)
      | ((first | (refine MkG.box 1 rfl rfl rfl (by decide) ?_) | (refine MkG.box 2 rfl rfl rfl (by decide) ?_) | (refine MkG.box 3 rfl rfl rfl (by decide) ?_) | (refine MkG.row ?_)); conv => whnf)
      | (refine LitG.row ?_; conv => whnf)
      | exact trivial
      | (refine Br.mk (fun hb => ?_) (fun hb => ?_) <;> (first | (exfalso; revert hb; decide) | ((try simp only [BL] at hb) <;> (try simp only [DL] at hb) <;> (first | (exfalso; omega) | (conv => whnf)))))
      | (refine And.intro ?_ ?_; (focus (first | exact id | exact rfl | exact trivial | (intro hg; first | exact hg | exact rfl | (simp; done) | (simp at hg ⊢; assumption)) | omega | decide | exact is2_c _ _ _ | exact is1_c _ _ | exact isS_c _ _ | exact isB_c _ _ | exact Nat.le_refl _ | assumption | exact mulLe (by decide) (by omega) | exact mulLe2 (by decide) (by omega) (by omega) | (intros; simp only [BL] at *; omega) | (intros; (try simp only [BL] at *); (try simp only [DL] at *); omega) | (intros; simp only [BL] at *; rw [wr_id (by omega) (by omega)]; omega) | (intro h1 h2; exact Bool.and_eq_true_iff.2 ⟨h1, h2⟩) | (intros; simp_all; done))); conv => whnf)
      | (refine Or.inr (And.intro rfl ?_); first | (refine congrArg intV ?_) | (refine congrArg boolV ?_) | (refine tupII ?_ ?_) | (refine tupIII ?_ ?_ ?_) | (refine tupU ?_ ?_ ?_ ?_ ?_) | exact rfl))
    simp only [Int.toNat_natCast]
    generalize strB T (x / 65536) = z at *
    have w : IntKind.i64.wrap z = z := wr_id (by omega) (by omega)
    have b5 : bitsOf x (16 + z.toNat) := bits_sh (k := 16) (by exact b1)
    refine .inr ⟨trivial, 16 + z.toNat, by omega, by omega, b5, congrArg intV ?_⟩
    rw [w]
    exact (wr_id (by omega) (by omega)).trans (by omega)
  · have hy : x / 256 < 256 := by omega
    obtain ⟨b1, b2, b3, b4⟩ := htab (x / 256) hy (by omega)
    rw [u8_id hy]
    refine And.intro ⟨by omega, by omega⟩ ?_
    clear htab
    conv => whnf
    repeat' (first
      | (refine NilG.mk fun bn hbn hbx => ?_; conv => whnf)
      | (refine Both.mk ?_ ?_ <;> conv => whnf)
      | ((first | (refine MkG.box 1 rfl rfl rfl (by decide) ?_) | (refine MkG.box 2 rfl rfl rfl (by decide) ?_) | (refine MkG.box 3 rfl rfl rfl (by decide) ?_) | (refine MkG.row ?_)); conv => whnf)
      | (refine LitG.row ?_; conv => whnf)
      | exact trivial
      | (refine Br.mk (fun hb => ?_) (fun hb => ?_) <;> (first | (exfalso; revert hb; decide) | ((try simp only [BL] at hb) <;> (try simp only [DL] at hb) <;> (first | (exfalso; omega) | (conv => whnf)))))
      | (refine And.intro ?_ ?_; (focus (first | exact id | exact rfl | exact trivial | (intro hg; first | exact hg | exact rfl | (simp; done) | (simp at hg ⊢; assumption)) | omega | decide | exact is2_c _ _ _ | exact is1_c _ _ | exact isS_c _ _ | exact isB_c _ _ | exact Nat.le_refl _ | assumption | exact mulLe (by decide) (by omega) | exact mulLe2 (by decide) (by omega) (by omega) | (intros; simp only [BL] at *; omega) | (intros; (try simp only [BL] at *); (try simp only [DL] at *); omega) | (intros; simp only [BL] at *; rw [wr_id (by omega) (by omega)]; omega) | (intro h1 h2; exact Bool.and_eq_true_iff.2 ⟨h1, h2⟩) | (intros; simp_all; done))); conv => whnf)
      | (refine Or.inr (And.intro rfl ?_); first | (refine congrArg intV ?_) | (refine congrArg boolV ?_) | (refine tupII ?_ ?_) | (refine tupIII ?_ ?_ ?_) | (refine tupU ?_ ?_ ?_ ?_ ?_) | exact rfl))
    simp only [Int.toNat_natCast]
    generalize strB T (x / 256) = z at *
    have w : IntKind.i64.wrap z = z := wr_id (by omega) (by omega)
    have b5 : bitsOf x (8 + z.toNat) := bits_sh (k := 8) (by exact b1)
    refine .inr ⟨trivial, 8 + z.toNat, by omega, by omega, b5, congrArg intV ?_⟩
    rw [w, show IntKind.i64.wrap (0 + 8) = 8 from rfl]
    exact (wr_id (by omega) (by omega)).trans (by omega)
  · have hy : x < 256 := by omega
    obtain ⟨b1, b2, b3, b4⟩ := htab (x) hy (by omega)
    rw [u8_id hy]
    refine And.intro ⟨by omega, by omega⟩ ?_
    clear htab
    conv => whnf
    repeat' (first
      | (refine NilG.mk fun bn hbn hbx => ?_; conv => whnf)
      | (refine Both.mk ?_ ?_ <;> conv => whnf)
      | ((first | (refine MkG.box 1 rfl rfl rfl (by decide) ?_) | (refine MkG.box 2 rfl rfl rfl (by decide) ?_) | (refine MkG.box 3 rfl rfl rfl (by decide) ?_) | (refine MkG.row ?_)); conv => whnf)
      | (refine LitG.row ?_; conv => whnf)
      | exact trivial
      | (refine Br.mk (fun hb => ?_) (fun hb => ?_) <;> (first | (exfalso; revert hb; decide) | ((try simp only [BL] at hb) <;> (try simp only [DL] at hb) <;> (first | (exfalso; omega) | (conv => whnf)))))
      | (refine And.intro ?_ ?_; (focus (first | exact id | exact rfl | exact trivial | (intro hg; first | exact hg | exact rfl | (simp; done) | (simp at hg ⊢; assumption)) | omega | decide | exact is2_c _ _ _ | exact is1_c _ _ | exact isS_c _ _ | exact isB_c _ _ | exact Nat.le_refl _ | assumption | exact mulLe (by decide) (by omega) | exact mulLe2 (by decide) (by omega) (by omega) | (intros; simp only [BL] at *; omega) | (intros; (try simp only [BL] at *); (try simp only [DL] at *); omega) | (intros; simp only [BL] at *; rw [wr_id (by omega) (by omega)]; omega) | (intro h1 h2; exact Bool.and_eq_true_iff.2 ⟨h1, h2⟩) | (intros; simp_all; done))); conv => whnf)
      | (refine Or.inr (And.intro rfl ?_); first | (refine congrArg intV ?_) | (refine congrArg boolV ?_) | (refine tupII ?_ ?_) | (refine tupIII ?_ ?_ ?_) | (refine tupU ?_ ?_ ?_ ?_ ?_) | exact rfl))
    simp only [Int.toNat_natCast]
    generalize strB T (x) = z at *
    have w : IntKind.i64.wrap z = z := wr_id (by omega) (by omega)
    have b5 : bitsOf x (0 + z.toNat) := bits_sh (k := 0) (by rw [Nat.pow_zero, Nat.div_one]; exact b1)
    refine .inr ⟨trivial, 0 + z.toNat, by omega, by omega, b5, congrArg intV ?_⟩
    rw [w]
    exact (wr_id (by omega) (by omega)).trans (by omega)
def shF (A s i : Nat) : Nat → Nat → L := fun k _ => .v (.int .u32 (if k < i then ((dg (A * 2 ^ s) k : Nat) : Int) else 0))
theorem sh_w {c x s d q : Nat} (hs : s < 32) (hc : c < 2 ^ s) (hx : x < 4294967296) (hd : (x * 2 ^ s + c) % 4294967296 = d) (hq : (x * 2 ^ s + c) / 4294967296 = q) :
    IntKind.u64.wrap ((x : Nat) : Int) = ((x : Nat) : Int) ∧ orI .u64 ((c : Nat) : Int) (shlI .u64 ((x : Nat) : Int) ((s : Nat) : Int)) = ((x * 2 ^ s + c : Nat) : Int) ∧ IntKind.u32.wrap ((x * 2 ^ s + c : Nat) : Int) = ((d : Nat) : Int) ∧ shrI .u64 ((x * 2 ^ s + c : Nat) : Int) 32 = ((q : Nat) : Int) :=
  ⟨wr64 (by omega), orS hs hc hx, by rw [wr32, hd], by rw [shr64, hq]⟩
set_option maxHeartbeats 4000000 in
theorem knSh (n A s : Nat) (hn : n ≤ 1000) (hA : A < 4294967296 ^ n) (hs : s < 32) : Fn Tryd.prog 148 [wdV n A, intV ((s : Nat) : Int)] (fun obs r => obs = [.row 137 1 (n + 1) false (cW (A * 2 ^ s))] ∧ r = .own 0) := by
  refine fn_of_wpx (O := lex) tab_ok gamLg_ok mixed Tryd.func148 (by kernel_rfl) rfl rfl rfl (by simp [Tryd.ntmps148]) (by kernel_rfl) ?_
  conv => whnf
  repeat' (first
    | (refine NilG.mk fun bn hbn hbx => ?_; conv => whnf)
    | (refine Both.mk ?_ ?_ <;> conv => whnf)
    | ((first | (refine MkG.box 1 rfl rfl rfl (by decide) ?_) | (refine MkG.box 2 rfl rfl rfl (by decide) ?_) | (refine MkG.box 3 rfl rfl rfl (by decide) ?_) | (refine MkG.row ?_)); conv => whnf)
    | (refine LitG.row ?_; conv => whnf)
    | exact trivial
    | (refine Br.mk (fun hb => ?_) (fun hb => ?_) <;> (first | (exfalso; revert hb; decide) | ((try simp only [BL] at hb) <;> (try simp only [DL] at hb) <;> (first | (exfalso; omega) | (conv => whnf)))))
    | (refine And.intro ?_ ?_; (focus (first | exact id | exact rfl | exact trivial | (intro hg; first | exact hg | exact rfl | (simp; done) | (simp at hg ⊢; assumption)) | omega | decide | exact is2_c _ _ _ | exact is1_c _ _ | exact isS_c _ _ | exact isB_c _ _ | exact Nat.le_refl _ | assumption | exact mulLe (by decide) (by omega) | exact mulLe2 (by decide) (by omega) (by omega) | (intros; simp only [BL] at *; omega) | (intros; (try simp only [BL] at *); (try simp only [DL] at *); omega) | (intros; simp only [BL] at *; rw [wr_id (by omega) (by omega)]; omega) | (intro h1 h2; exact Bool.and_eq_true_iff.2 ⟨h1, h2⟩) | (intros; simp_all; done))); conv => whnf)
    | (refine Or.inr (And.intro rfl ?_); first | (refine congrArg intV ?_) | (refine congrArg boolV ?_) | (refine tupII ?_ ?_) | (refine tupIII ?_ ?_ ?_) | (refine tupU ?_ ?_ ?_ ?_ ?_) | exact rfl))
  have e1 := succ_i n (by omega)
  rw [e1]
  have e2 : (0 : Int) = ((shC A s 0 : Nat) : Int) := by rw [sh_zero]; rfl
  have hs2 : (0 : Int) ≤ ((n + 1 : Nat) : Int) ∧ ((n + 1 : Nat) : Int) ≤ ((n + 1 : Nat) : Int) := by omega
  conv => whnf
  repeat' (first
    | (refine NilG.mk fun bn hbn hbx => ?_; conv => whnf)
    | (refine Both.mk ?_ ?_ <;> conv => whnf)
    | ((first | (refine MkG.box 1 rfl rfl rfl (by decide) ?_) | (refine MkG.box 2 rfl rfl rfl (by decide) ?_) | (refine MkG.box 3 rfl rfl rfl (by decide) ?_) | (refine MkG.row ?_)); conv => whnf)
    | (refine LitG.row ?_; conv => whnf)
    | exact trivial
    | (refine Br.mk (fun hb => ?_) (fun hb => ?_) <;> (first | (exfalso; revert hb; decide) | ((try simp only [BL] at hb) <;> (try simp only [DL] at hb) <;> (first | (exfalso; omega) | (conv => whnf)))))
    | (refine And.intro ?_ ?_; (focus (first | exact id | exact rfl | exact trivial | (intro hg; first | exact hg | exact rfl | (simp; done) | (simp at hg ⊢; assumption)) | omega | decide | exact is2_c _ _ _ | exact is1_c _ _ | exact isS_c _ _ | exact isB_c _ _ | exact Nat.le_refl _ | assumption | exact mulLe (by decide) (by omega) | exact mulLe2 (by decide) (by omega) (by omega) | (intros; simp only [BL] at *; omega) | (intros; (try simp only [BL] at *); (try simp only [DL] at *); omega) | (intros; simp only [BL] at *; rw [wr_id (by omega) (by omega)]; omega) | (intro h1 h2; exact Bool.and_eq_true_iff.2 ⟨h1, h2⟩) | (intros; simp_all; done))); conv => whnf)
    | (refine Or.inr (And.intro rfl ?_); first | (refine congrArg intV ?_) | (refine congrArg boolV ?_) | (refine tupII ?_ ?_) | (refine tupIII ?_ ?_ ?_) | (refine tupU ?_ ?_ ?_ ?_ ?_) | exact rfl))
  refine sem_loop tab_ok gamLg_ok mixed (by kernel_rfl) (O := lex) (fun i : Nat => ⟨[(0, wdV n A), (1, intV ((s : Nat) : Int)), (5, .own 0), (6, u64V ((shC A s i : Nat) : Int)), (13, wdV n A), (14, intV n), (15, intV i)], [.row 137 1 (n + 1) false (shF A s i)]⟩) (fun i => i ≤ n) (fun i => n - i) ⟨0, [?_], Nat.zero_le _, ?_⟩ fun i hi => ?_
  rotate_left 1
  · refine Sub.of ?_ ?_ ?_
    repeat' (first | (refine And.intro ?_ ?_) | exact trivial | exact fun _ _ _ => hsc _ _ | (exact congrArg intV (by first | with_reducible rfl | with_reducible assumption)) | exact (rfl : AV.idsLt _ _ = true) | exact (rfl : _ = AV.ren _ (.own _)) | exact (rfl : _ = AV.ren _ (.fn _ _)) | exact (rfl : _ = AV.ren _ (.gh _)) | (exact congrArg intV (by assumption)) | (refine congrArg intV ((wr_id (by omega) (by omega)).trans (by omega))) | exact rfl | (simp only [NLc]; first | exact rfl | done) | exact all0 | exact fun h => Bool.noConfusion h | exact fun _ _ _ _ => rfl | omega)
    · exact (congrArg (fun z : Int => u64V z) e2 : _)
    · intro a ha b hb
      have hb : b < 1 := hb
      obtain rfl : b = 0 := by omega
      show L.v (Value.int .u32 0) = L.v (Value.int .u32 (if a < 0 then _ else 0))
      rw [if_neg (by omega)]
  obtain ⟨s1, s2⟩ := sh_step (A := A) (k := i) hs
  obtain ⟨w1, w2, w3, w4⟩ := sh_w hs (shC_lt A s i) (dg_lt A i) s1 s2
  have hrow : ∀ a, a < n + 1 → a ≠ i → shF A s i a 0 = shF A s (i + 1) a 0 := fun a ha hne => by
    show L.v (Value.int .u32 (if a < i then _ else 0)) = L.v (Value.int .u32 (if a < i + 1 then _ else 0))
    by_cases h : a < i
    · rw [if_pos h, if_pos (by omega)]
    · rw [if_neg h, if_neg (by omega)]
  have hnew : L.v (Value.int .u32 ((dg (A * 2 ^ s) i : Nat) : Int)) = shF A s (i + 1) i 0 := by
    show _ = L.v (Value.int .u32 (if i < i + 1 then _ else 0))
    rw [if_pos (by omega)]
  conv => whnf
  repeat' (first
    | (refine NilG.mk fun bn hbn hbx => ?_; conv => whnf)
    | (refine Both.mk ?_ ?_ <;> conv => whnf)
    | ((first | (refine MkG.box 1 rfl rfl rfl (by decide) ?_) | (refine MkG.box 2 rfl rfl rfl (by decide) ?_) | (refine MkG.box 3 rfl rfl rfl (by decide) ?_) | (refine MkG.row ?_)); conv => whnf)
    | (refine LitG.row ?_; conv => whnf)
    | exact trivial
    | (refine Br.mk (fun hb => ?_) (fun hb => ?_) <;> (first | (exfalso; revert hb; decide) | ((try simp only [BL] at hb) <;> (try simp only [DL] at hb) <;> (first | (exfalso; omega) | (conv => whnf)))))
    | (refine And.intro ?_ ?_; (focus (first | exact id | exact rfl | exact trivial | (intro hg; first | exact hg | exact rfl | (simp; done) | (simp at hg ⊢; assumption)) | omega | decide | exact is2_c _ _ _ | exact is1_c _ _ | exact isS_c _ _ | exact isB_c _ _ | exact Nat.le_refl _ | assumption | exact mulLe (by decide) (by omega) | exact mulLe2 (by decide) (by omega) (by omega) | (intros; simp only [BL] at *; omega) | (intros; (try simp only [BL] at *); (try simp only [DL] at *); omega) | (intros; simp only [BL] at *; rw [wr_id (by omega) (by omega)]; omega) | (intro h1 h2; exact Bool.and_eq_true_iff.2 ⟨h1, h2⟩) | (intros; simp_all; done))); conv => whnf)
    | (refine Or.inr (And.intro rfl ?_); first | (refine congrArg intV ?_) | (refine congrArg boolV ?_) | (refine tupII ?_ ?_) | (refine tupIII ?_ ?_ ?_) | (refine tupU ?_ ?_ ?_ ?_ ?_) | exact rfl))
  · simp only [Int.toNat_natCast, w1, w2, w3, w4]
    refine ⟨i + 1, [?_], by omega, by omega, ?_⟩
    rotate_left 1
    refine Sub.of ?_ ?_ ?_
    repeat' (first | (refine And.intro ?_ ?_) | exact trivial | exact fun _ _ _ => hsc _ _ | (exact congrArg intV (by first | with_reducible rfl | with_reducible assumption)) | exact (rfl : AV.idsLt _ _ = true) | exact (rfl : _ = AV.ren _ (.own _)) | exact (rfl : _ = AV.ren _ (.fn _ _)) | exact (rfl : _ = AV.ren _ (.gh _)) | (exact congrArg intV (by assumption)) | (refine congrArg intV ((wr_id (by omega) (by omega)).trans (by omega))) | exact rfl | (simp only [NLc]; first | exact rfl | done) | exact all0 | exact fun h => Bool.noConfusion h | exact fun _ _ _ _ => rfl | omega)
    exact row_set1 hnew hrow
  · obtain rfl : i = n := by omega
    have w5 : IntKind.u32.wrap ((shC A s i : Nat) : Int) = ((dg (A * 2 ^ s) i : Nat) : Int) := by
      rw [wr32, ← s1, dg_hi hA, Nat.zero_mul, Nat.zero_add]
    simp only [Int.toNat_natCast, w5]
    refine .inl ⟨[0], [.row 137 1 (i + 1) false (cW (A * 2 ^ s))], .own 0, rfl, ?_, rfl, rfl, rfl, rfl⟩
    refine ⟨⟨rfl, rfl, rfl, fun h => absurd h (by decide), fun a ha b hb => ?_⟩, trivial⟩
    obtain rfl : b = 0 := by omega
    refine (row_set1 (n := i + 1) (g := shF A s (i + 1)) hnew hrow a ha 0 (by omega)).trans ?_
    show L.v (Value.int .u32 (if a < i + 1 then _ else 0)) = L.v (Value.int .u32 _)
    rw [if_pos ha]
end Go.Proofs.YtjfnhehjhicnoaaDoor

namespace Go.Proofs.YtjfnhehjhicnoaaDoor
open Go.RowKit

set_option maxHeartbeats 4000000 in
theorem knShC0 (n A s : Nat) (hn : n ≤ 1000) (hA : A < 4294967296 ^ n) (hs : s < 32) : Fn Tryd.prog 148 [wdV n A, intV ((s : Nat) : Int)] (wdK (n + 1) (A * 2 ^ s)) := by
  refine fn_of_wpx (O := lex) tab_ok gamLg_ok mixed Tryd.func148 (by kernel_rfl) rfl rfl rfl (by simp [Tryd.ntmps148]) (by kernel_rfl) ?_
  conv => whnf
  repeat' (first
    | (refine NilG.mk fun bn hbn hbx => ?_; conv => whnf)
    | (refine Both.mk ?_ ?_ <;> conv => whnf)
    | ((first | (refine MkG.box 1 rfl rfl rfl (by decide) ?_) | (refine MkG.box 2 rfl rfl rfl (by decide) ?_) | (refine MkG.box 3 rfl rfl rfl (by decide) ?_) | (refine MkG.row ?_)); conv => whnf)
    | (refine LitG.row ?_; conv => whnf)
    | exact trivial
    | (refine Br.mk (fun hb => ?_) (fun hb => ?_) <;> (first | (exfalso; revert hb; decide) | ((try simp only [BL] at hb) <;> (try simp only [DL] at hb) <;> (first | (exfalso; omega) | (conv => whnf)))))
    | (refine And.intro ?_ ?_; (focus (first | exact id | exact rfl | exact trivial | (intro hg; first | exact hg | exact rfl | (simp; done) | (simp at hg ⊢; assumption)) | omega | decide | exact is2_c _ _ _ | exact is1_c _ _ | exact isS_c _ _ | exact isB_c _ _ | exact Nat.le_refl _ | assumption | exact mulLe (by decide) (by omega) | exact mulLe2 (by decide) (by omega) (by omega) | (intros; simp only [BL] at *; omega) | (intros; (try simp only [BL] at *); (try simp only [DL] at *); omega) | (intros; simp only [BL] at *; rw [wr_id (by omega) (by omega)]; omega) | (intro h1 h2; exact Bool.and_eq_true_iff.2 ⟨h1, h2⟩) | (intros; simp_all; done))); conv => whnf)
    | (refine Or.inr (And.intro rfl ?_); first | (refine congrArg intV ?_) | (refine congrArg boolV ?_) | (refine tupII ?_ ?_) | (refine tupIII ?_ ?_ ?_) | (refine tupU ?_ ?_ ?_ ?_ ?_) | exact rfl))
  have e1 := succ_i n (by omega)
  rw [e1]
  have e2 : (0 : Int) = ((shC A s 0 : Nat) : Int) := by rw [sh_zero]; rfl
  have hs2 : (0 : Int) ≤ ((n + 1 : Nat) : Int) ∧ ((n + 1 : Nat) : Int) ≤ ((n + 1 : Nat) : Int) := by omega
  conv => whnf
  repeat' (first
    | (refine NilG.mk fun bn hbn hbx => ?_; conv => whnf)
    | (refine Both.mk ?_ ?_ <;> conv => whnf)
    | ((first | (refine MkG.box 1 rfl rfl rfl (by decide) ?_) | (refine MkG.box 2 rfl rfl rfl (by decide) ?_) | (refine MkG.box 3 rfl rfl rfl (by decide) ?_) | (refine MkG.row ?_)); conv => whnf)
    | (refine LitG.row ?_; conv => whnf)
    | exact trivial
    | (refine Br.mk (fun hb => ?_) (fun hb => ?_) <;> (first | (exfalso; revert hb; decide) | ((try simp only [BL] at hb) <;> (try simp only [DL] at hb) <;> (first | (exfalso; omega) | (conv => whnf)))))
    | (refine And.intro ?_ ?_; (focus (first | exact id | exact rfl | exact trivial | (intro hg; first | exact hg | exact rfl | (simp; done) | (simp at hg ⊢; assumption)) | omega | decide | exact is2_c _ _ _ | exact is1_c _ _ | exact isS_c _ _ | exact isB_c _ _ | exact Nat.le_refl _ | assumption | exact mulLe (by decide) (by omega) | exact mulLe2 (by decide) (by omega) (by omega) | (intros; simp only [BL] at *; omega) | (intros; (try simp only [BL] at *); (try simp only [DL] at *); omega) | (intros; simp only [BL] at *; rw [wr_id (by omega) (by omega)]; omega) | (intro h1 h2; exact Bool.and_eq_true_iff.2 ⟨h1, h2⟩) | (intros; simp_all; done))); conv => whnf)
    | (refine Or.inr (And.intro rfl ?_); first | (refine congrArg intV ?_) | (refine congrArg boolV ?_) | (refine tupII ?_ ?_) | (refine tupIII ?_ ?_ ?_) | (refine tupU ?_ ?_ ?_ ?_ ?_) | exact rfl))
  refine sem_loop tab_ok gamLg_ok mixed (by kernel_rfl) (O := lex) (fun i : Nat => ⟨[(0, wdV n A), (1, intV ((s : Nat) : Int)), (5, .own 0), (6, u64V ((shC A s i : Nat) : Int)), (13, wdV n A), (14, intV n), (15, intV i)], [.row 137 1 (n + 1) false (shF A s i)]⟩) (fun i => i ≤ n) (fun i => n - i) ⟨0, [?_], Nat.zero_le _, ?_⟩ fun i hi => ?_
  rotate_left 1
  · refine Sub.of ?_ ?_ ?_
    repeat' (first | (refine And.intro ?_ ?_) | exact trivial | exact fun _ _ _ => hsc _ _ | (exact congrArg intV (by first | with_reducible rfl | with_reducible assumption)) | exact (rfl : AV.idsLt _ _ = true) | exact (rfl : _ = AV.ren _ (.own _)) | exact (rfl : _ = AV.ren _ (.fn _ _)) | exact (rfl : _ = AV.ren _ (.gh _)) | (exact congrArg intV (by assumption)) | (refine congrArg intV ((wr_id (by omega) (by omega)).trans (by omega))) | exact rfl | (simp only [NLc]; first | exact rfl | done) | exact all0 | exact fun h => Bool.noConfusion h | exact fun _ _ _ _ => rfl | omega)
    · exact (congrArg (fun z : Int => u64V z) e2 : _)
    · intro a ha b hb
      have hb : b < 1 := hb
      obtain rfl : b = 0 := by omega
      show L.v (Value.int .u32 0) = L.v (Value.int .u32 (if a < 0 then _ else 0))
      rw [if_neg (by omega)]
  obtain ⟨s1, s2⟩ := sh_step (A := A) (k := i) hs
  obtain ⟨w1, w2, w3, w4⟩ := sh_w hs (shC_lt A s i) (dg_lt A i) s1 s2
  have hrow : ∀ a, a < n + 1 → a ≠ i → shF A s i a 0 = shF A s (i + 1) a 0 := fun a ha hne => by
    show L.v (Value.int .u32 (if a < i then _ else 0)) = L.v (Value.int .u32 (if a < i + 1 then _ else 0))
    by_cases h : a < i
    · rw [if_pos h, if_pos (by omega)]
    · rw [if_neg h, if_neg (by omega)]
  have hnew : L.v (Value.int .u32 ((dg (A * 2 ^ s) i : Nat) : Int)) = shF A s (i + 1) i 0 := by
    show _ = L.v (Value.int .u32 (if i < i + 1 then _ else 0))
    rw [if_pos (by omega)]
  conv => whnf
  repeat' (first
    | (refine NilG.mk fun bn hbn hbx => ?_; conv => whnf)
    | (refine Both.mk ?_ ?_ <;> conv => whnf)
    | ((first | (refine MkG.box 1 rfl rfl rfl (by decide) ?_) | (refine MkG.box 2 rfl rfl rfl (by decide) ?_) | (refine MkG.box 3 rfl rfl rfl (by decide) ?_) | (refine MkG.row ?_)); conv => whnf)
    | (refine LitG.row ?_; conv => whnf)
    | exact trivial
    | (refine Br.mk (fun hb => ?_) (fun hb => ?_) <;> (first | (exfalso; revert hb; decide) | ((try simp only [BL] at hb) <;> (try simp only [DL] at hb) <;> (first | (exfalso; omega) | (conv => whnf)))))
    | (refine And.intro ?_ ?_; (focus (first | exact id | exact rfl | exact trivial | (intro hg; first | exact hg | exact rfl | (simp; done) | (simp at hg ⊢; assumption)) | omega | decide | exact is2_c _ _ _ | exact is1_c _ _ | exact isS_c _ _ | exact isB_c _ _ | exact Nat.le_refl _ | assumption | exact mulLe (by decide) (by omega) | exact mulLe2 (by decide) (by omega) (by omega) | (intros; simp only [BL] at *; omega) | (intros; (try simp only [BL] at *); (try simp only [DL] at *); omega) | (intros; simp only [BL] at *; rw [wr_id (by omega) (by omega)]; omega) | (intro h1 h2; exact Bool.and_eq_true_iff.2 ⟨h1, h2⟩) | (intros; simp_all; done))); conv => whnf)
    | (refine Or.inr (And.intro rfl ?_); first | (refine congrArg intV ?_) | (refine congrArg boolV ?_) | (refine tupII ?_ ?_) | (refine tupIII ?_ ?_ ?_) | (refine tupU ?_ ?_ ?_ ?_ ?_) | exact rfl))
  · simp only [Int.toNat_natCast, w1, w2, w3, w4]
    refine ⟨i + 1, [?_], by omega, by omega, ?_⟩
    rotate_left 1
    refine Sub.of ?_ ?_ ?_
    repeat' (first | (refine And.intro ?_ ?_) | exact trivial | exact fun _ _ _ => hsc _ _ | (exact congrArg intV (by first | with_reducible rfl | with_reducible assumption)) | exact (rfl : AV.idsLt _ _ = true) | exact (rfl : _ = AV.ren _ (.own _)) | exact (rfl : _ = AV.ren _ (.fn _ _)) | exact (rfl : _ = AV.ren _ (.gh _)) | (exact congrArg intV (by assumption)) | (refine congrArg intV ((wr_id (by omega) (by omega)).trans (by omega))) | exact rfl | (simp only [NLc]; first | exact rfl | done) | exact all0 | exact fun h => Bool.noConfusion h | exact fun _ _ _ _ => rfl | omega)
    exact row_set1 hnew hrow
  · obtain rfl : i = n := by omega
    have w5 : IntKind.u32.wrap ((shC A s i : Nat) : Int) = ((dg (A * 2 ^ s) i : Nat) : Int) := by
      rw [wr32, ← s1, dg_hi hA, Nat.zero_mul, Nat.zero_add]
    simp only [Int.toNat_natCast, w5]
    refine .inr ⟨rfl, _, rfl, fun a ha b hb => ?_⟩
    obtain rfl : b = 0 := by omega
    refine (row_set1 (n := i + 1) (g := shF A s (i + 1)) hnew hrow a ha 0 (by omega)).trans ?_
    show L.v (Value.int .u32 (if a < i + 1 then _ else 0)) = L.v (Value.int .u32 _)
    rw [if_pos ha]
theorem knShC (n A s : Nat) (hn : n ≤ 1000) (hA : A < 4294967296 ^ n) (hs : s < 32) : Fn1 Tryd.prog 148 [wdV n A, intV ((s : Nat) : Int)] (wdV (n + 1) (A * 2 ^ s)) := wdK_fn (knShC0 n A s hn hA hs)
theorem knLz (x : Nat) (hx : x < 4294967296) (h0 : 0 < x) : Fn Tryd.prog 147 [u32V ((x : Nat) : Int)] (fun obs r => obs = [] ∧ ∃ s : Nat, s < 32 ∧ 2147483648 ≤ x * 2 ^ s ∧ x * 2 ^ s < 4294967296 ∧ r = intV ((s : Nat) : Int)) := by
  refine fn_of_wpx (O := lex) tab_ok gamLg_ok mixed Tryd.func147 (by kernel_rfl) rfl rfl rfl (by simp [Tryd.ntmps147]) (by kernel_rfl) ?_
  conv => whnf
  repeat' (first
    | (refine NilG.mk fun bn hbn hbx => ?_; conv => whnf)
    | (refine Both.mk ?_ ?_ <;> conv => whnf)
    | ((first | (refine MkG.box 1 rfl rfl rfl (by decide) ?_) | (refine MkG.box 2 rfl rfl rfl (by decide) ?_) | (refine MkG.box 3 rfl rfl rfl (by decide) ?_) | (refine MkG.row ?_)); conv => whnf)
    | (refine LitG.row ?_; conv => whnf)
    | exact trivial
    | (refine Br.mk (fun hb => ?_) (fun hb => ?_) <;> (first | (exfalso; revert hb; decide) | ((try simp only [BL] at hb) <;> (try simp only [DL] at hb) <;> (first | (exfalso; omega) | (conv => whnf)))))
    | (refine And.intro ?_ ?_; (focus (first | exact id | exact rfl | exact trivial | (intro hg; first | exact hg | exact rfl | (simp; done) | (simp at hg ⊢; assumption)) | omega | decide | exact is2_c _ _ _ | exact is1_c _ _ | exact isS_c _ _ | exact isB_c _ _ | exact Nat.le_refl _ | assumption | exact mulLe (by decide) (by omega) | exact mulLe2 (by decide) (by omega) (by omega) | (intros; simp only [BL] at *; omega) | (intros; (try simp only [BL] at *); (try simp only [DL] at *); omega) | (intros; simp only [BL] at *; rw [wr_id (by omega) (by omega)]; omega) | (intro h1 h2; exact Bool.and_eq_true_iff.2 ⟨h1, h2⟩) | (intros; simp_all; done))); conv => whnf)
    | (refine Or.inr (And.intro rfl ?_); first | (refine congrArg intV ?_) | (refine congrArg boolV ?_) | (refine tupII ?_ ?_) | (refine tupIII ?_ ?_ ?_) | (refine tupU ?_ ?_ ?_ ?_ ?_) | exact rfl))
  refine CallG.mk (Fn.mono (knLen x hx h0) ?_)
  rintro obs r ⟨rfl, n, h1, h2, ⟨h3, h4⟩, rfl⟩
  have e : 4294967296 = 2 ^ n * 2 ^ (32 - n) := by rw [← Nat.pow_add, show n + (32 - n) = 32 by omega]
  have hp : 0 < 2 ^ (32 - n) := Nat.pow_pos (by decide)
  have h5 : 2 ^ n * 2 ^ (32 - n) ≤ 2 * x * 2 ^ (32 - n) := Nat.mul_le_mul_right _ h3
  have h6 : x * 2 ^ (32 - n) < 2 ^ n * 2 ^ (32 - n) := (Nat.mul_lt_mul_right hp).2 h4
  rw [← e] at h5 h6
  rw [Nat.mul_assoc] at h5
  have h7 : IntKind.i64.wrap (32 - ((n : Nat) : Int)) = ((32 - n : Nat) : Int) := (wr_id (by omega) (by omega)).trans (by omega)
  conv => whnf
  repeat' (first
    | (refine NilG.mk fun bn hbn hbx => ?_; conv => whnf)
    | (refine Both.mk ?_ ?_ <;> conv => whnf)
    | ((first | (refine MkG.box 1 rfl rfl rfl (by decide) ?_) | (refine MkG.box 2 rfl rfl rfl (by decide) ?_) | (refine MkG.box 3 rfl rfl rfl (by decide) ?_) | (refine MkG.row ?_)); conv => whnf)
    | (refine LitG.row ?_; conv => whnf)
    | exact trivial
    | (refine Br.mk (fun hb => ?_) (fun hb => ?_) <;> (first | (exfalso; revert hb; decide) | ((try simp only [BL] at hb) <;> (try simp only [DL] at hb) <;> (first | (exfalso; omega) | (conv => whnf)))))
    | (refine And.intro ?_ ?_; (focus (first | exact id | exact rfl | exact trivial | (intro hg; first | exact hg | exact rfl | (simp; done) | (simp at hg ⊢; assumption)) | omega | decide | exact is2_c _ _ _ | exact is1_c _ _ | exact isS_c _ _ | exact isB_c _ _ | exact Nat.le_refl _ | assumption | exact mulLe (by decide) (by omega) | exact mulLe2 (by decide) (by omega) (by omega) | (intros; simp only [BL] at *; omega) | (intros; (try simp only [BL] at *); (try simp only [DL] at *); omega) | (intros; simp only [BL] at *; rw [wr_id (by omega) (by omega)]; omega) | (intro h1 h2; exact Bool.and_eq_true_iff.2 ⟨h1, h2⟩) | (intros; simp_all; done))); conv => whnf)
    | (refine Or.inr (And.intro rfl ?_); first | (refine congrArg intV ?_) | (refine congrArg boolV ?_) | (refine tupII ?_ ?_) | (refine tupIII ?_ ?_ ?_) | (refine tupU ?_ ?_ ?_ ?_ ?_) | exact rfl))
  exact .inr ⟨rfl, 32 - n, by omega, by omega, h6, congrArg intV h7⟩
theorem kn_nn {d : Nat} (h : ((d : Nat) : Int) - ((0 : Nat) : Int) * 4294967296 < 0) : False := by omega
abbrev kR (A B : Nat) : Nat := A % B
/-- the remainder's row -/
def krF (A B i : Nat) : Nat → Nat → L := fun k _ => .v (.int .u32 (if k < i then ((dg (kR A B) k : Nat) : Int) else 0))
/-- the row while Q times Y is taken away: words below i are done -/
def kuF (X P i : Nat) : Nat → Nat → L := fun k _ => .v (.int .u32 (if k < i then ((dg (X - P) k : Nat) : Int) else ((dg X k : Nat) : Int)))
theorem kuF_0 (X P : Nat) : kuF X P 0 = cW X := rfl
/-- what divWords hands back, two words by two -/
def kdK (A B : Nat) (obs : List OB) (r : AV) : Prop := obs = [] ∧ ∃ f g, r = .tup [.c (.sl 1 1 f), .c (.sl 1 2 g)] ∧ Sh 1 1 f (cW (A / B)) ∧ Sh 2 1 g (cW (A % B))
set_option maxRecDepth 100000 in
set_option maxHeartbeats 8000000 in
theorem knDiv (A B : Nat) (hA : A < 4294967296 ^ 2) (hB : B < 4294967296 ^ 2) (hv : 0 < dg B 1) (hAB : B ≤ A) (hwA : wl A = 2) (hwB : wl B = 2) : Fn Tryd.prog 123 [wdV 2 A, wdV 2 B] (kdK A B) := by
  refine fn_of_wpx (O := ordDW) tab_ok gamLg_ok mixed Tryd.func123 (by kernel_rfl) rfl rfl rfl (by simp [Tryd.ntmps123]) (by kernel_rfl) ?_
  have hcmp := lgCmp A B (by omega) (by omega)
  have hc0 : ¬ cmpA A B < 0 := fun h => absurd (cmpA_lt.1 h) (by omega)
  unfold wdN at hcmp
  rw [hwA, hwB] at hcmp
  generalize cmpA A B = c at *
  conv => whnf
  repeat' (first
    | (refine NilG.mk fun bn hbn hbx => ?_; conv => whnf)
    | (refine Both.mk ?_ ?_ <;> conv => whnf)
    | ((first | (refine MkG.box 1 rfl rfl rfl (by decide) ?_) | (refine MkG.box 2 rfl rfl rfl (by decide) ?_) | (refine MkG.box 3 rfl rfl rfl (by decide) ?_) | (refine MkG.row ?_)); conv => whnf)
    | (refine LitG.row ?_; conv => whnf)
    | exact trivial
    | (refine Br.mk (fun hb => ?_) (fun hb => ?_) <;> (first | (exfalso; revert hb; decide) | ((try simp only [BL] at hb) <;> (try simp only [DL] at hb) <;> (first | (exfalso; omega) | (conv => whnf)))))
    | (refine And.intro ?_ ?_; (focus (first | exact id | exact rfl | exact trivial | (intro hg; first | exact hg | exact rfl | (simp; done) | (simp at hg ⊢; assumption)) | omega | decide | exact is2_c _ _ _ | exact is1_c _ _ | exact isS_c _ _ | exact isB_c _ _ | exact Nat.le_refl _ | assumption | exact mulLe (by decide) (by omega) | exact mulLe2 (by decide) (by omega) (by omega) | (intros; simp only [BL] at *; omega) | (intros; (try simp only [BL] at *); (try simp only [DL] at *); omega) | (intros; simp only [BL] at *; rw [wr_id (by omega) (by omega)]; omega) | (intro h1 h2; exact Bool.and_eq_true_iff.2 ⟨h1, h2⟩) | (intros; simp_all; done))); conv => whnf)
    | (refine Or.inr (And.intro rfl ?_); first | (refine congrArg intV ?_) | (refine congrArg boolV ?_) | (refine tupII ?_ ?_) | (refine tupIII ?_ ?_ ?_) | (refine tupU ?_ ?_ ?_ ?_ ?_) | exact rfl))
  refine CallC.mk (Fn.mono hcmp ?_)
  rintro obs r ⟨rfl, rfl⟩
  conv => whnf
  repeat' (first
    | (refine NilG.mk fun bn hbn hbx => ?_; conv => whnf)
    | (refine Both.mk ?_ ?_ <;> conv => whnf)
    | ((first | (refine MkG.box 1 rfl rfl rfl (by decide) ?_) | (refine MkG.box 2 rfl rfl rfl (by decide) ?_) | (refine MkG.box 3 rfl rfl rfl (by decide) ?_) | (refine MkG.row ?_)); conv => whnf)
    | (refine LitG.row ?_; conv => whnf)
    | exact trivial
    | (refine Br.mk (fun hb => ?_) (fun hb => ?_) <;> (first | (exfalso; revert hb; decide) | ((try simp only [BL] at hb) <;> (try simp only [DL] at hb) <;> (first | (exfalso; omega) | (conv => whnf)))))
    | (refine And.intro ?_ ?_; (focus (first | exact id | exact rfl | exact trivial | (intro hg; first | exact hg | exact rfl | (simp; done) | (simp at hg ⊢; assumption)) | omega | decide | exact is2_c _ _ _ | exact is1_c _ _ | exact isS_c _ _ | exact isB_c _ _ | exact Nat.le_refl _ | assumption | exact mulLe (by decide) (by omega) | exact mulLe2 (by decide) (by omega) (by omega) | (intros; simp only [BL] at *; omega) | (intros; (try simp only [BL] at *); (try simp only [DL] at *); omega) | (intros; simp only [BL] at *; rw [wr_id (by omega) (by omega)]; omega) | (intro h1 h2; exact Bool.and_eq_true_iff.2 ⟨h1, h2⟩) | (intros; simp_all; done))); conv => whnf)
    | (refine Or.inr (And.intro rfl ?_); first | (refine congrArg intV ?_) | (refine congrArg boolV ?_) | (refine tupII ?_ ?_) | (refine tupIII ?_ ?_ ?_) | (refine tupU ?_ ?_ ?_ ?_ ?_) | exact rfl))
  have e1 : (IntKind.i64.wrap (((2 : Nat) : Int) - 1)).toNat = 1 := rfl
  rw [e1]
  refine CallG.mk (Fn.mono (knLz (dg B 1) (dg_lt B 1) hv) ?_)
  rintro obs r ⟨rfl, s, hs, hs1, hs2, rfl⟩
  conv => whnf
  repeat' (first
    | (refine NilG.mk fun bn hbn hbx => ?_; conv => whnf)
    | (refine Both.mk ?_ ?_ <;> conv => whnf)
    | ((first | (refine MkG.box 1 rfl rfl rfl (by decide) ?_) | (refine MkG.box 2 rfl rfl rfl (by decide) ?_) | (refine MkG.box 3 rfl rfl rfl (by decide) ?_) | (refine MkG.row ?_)); conv => whnf)
    | (refine LitG.row ?_; conv => whnf)
    | exact trivial
    | (refine Br.mk (fun hb => ?_) (fun hb => ?_) <;> (first | (exfalso; revert hb; decide) | ((try simp only [BL] at hb) <;> (try simp only [DL] at hb) <;> (first | (exfalso; omega) | (conv => whnf)))))
    | (refine And.intro ?_ ?_; (focus (first | exact id | exact rfl | exact trivial | (intro hg; first | exact hg | exact rfl | (simp; done) | (simp at hg ⊢; assumption)) | omega | decide | exact is2_c _ _ _ | exact is1_c _ _ | exact isS_c _ _ | exact isB_c _ _ | exact Nat.le_refl _ | assumption | exact mulLe (by decide) (by omega) | exact mulLe2 (by decide) (by omega) (by omega) | (intros; simp only [BL] at *; omega) | (intros; (try simp only [BL] at *); (try simp only [DL] at *); omega) | (intros; simp only [BL] at *; rw [wr_id (by omega) (by omega)]; omega) | (intro h1 h2; exact Bool.and_eq_true_iff.2 ⟨h1, h2⟩) | (intros; simp_all; done))); conv => whnf)
    | (refine Or.inr (And.intro rfl ?_); first | (refine congrArg intV ?_) | (refine congrArg boolV ?_) | (refine tupII ?_ ?_) | (refine tupIII ?_ ?_ ?_) | (refine tupU ?_ ?_ ?_ ?_ ?_) | exact rfl))
  have hSA := knSh 2 A s (by decide) hA hs
  have hSB := knShC 2 B s (by decide) hB hs
  have hm1 : IntKind.i64.wrap (IntKind.i64.wrap (((2 : Nat) : Int) - ((2 : Nat) : Int)) + 1) = ((1 : Nat) : Int) := rfl
  generalize hX : A * 2 ^ s = X at *
  generalize hY : B * 2 ^ s = Y at *
  refine CallC.mk (Fn.mono hSA ?_)
  rintro obs r ⟨rfl, rfl⟩
  conv => whnf
  repeat' (first
    | (refine NilG.mk fun bn hbn hbx => ?_; conv => whnf)
    | (refine Both.mk ?_ ?_ <;> conv => whnf)
    | ((first | (refine MkG.box 1 rfl rfl rfl (by decide) ?_) | (refine MkG.box 2 rfl rfl rfl (by decide) ?_) | (refine MkG.box 3 rfl rfl rfl (by decide) ?_) | (refine MkG.row ?_)); conv => whnf)
    | (refine LitG.row ?_; conv => whnf)
    | exact trivial
    | (refine Br.mk (fun hb => ?_) (fun hb => ?_) <;> (first | (exfalso; revert hb; decide) | ((try simp only [BL] at hb) <;> (try simp only [DL] at hb) <;> (first | (exfalso; omega) | (conv => whnf)))))
    | (refine And.intro ?_ ?_; (focus (first | exact id | exact rfl | exact trivial | (intro hg; first | exact hg | exact rfl | (simp; done) | (simp at hg ⊢; assumption)) | omega | decide | exact is2_c _ _ _ | exact is1_c _ _ | exact isS_c _ _ | exact isB_c _ _ | exact Nat.le_refl _ | assumption | exact mulLe (by decide) (by omega) | exact mulLe2 (by decide) (by omega) (by omega) | (intros; simp only [BL] at *; omega) | (intros; (try simp only [BL] at *); (try simp only [DL] at *); omega) | (intros; simp only [BL] at *; rw [wr_id (by omega) (by omega)]; omega) | (intro h1 h2; exact Bool.and_eq_true_iff.2 ⟨h1, h2⟩) | (intros; simp_all; done))); conv => whnf)
    | (refine Or.inr (And.intro rfl ?_); first | (refine congrArg intV ?_) | (refine congrArg boolV ?_) | (refine tupII ?_ ?_) | (refine tupIII ?_ ?_ ?_) | (refine tupU ?_ ?_ ?_ ?_ ?_) | exact rfl))
  refine CallC.mk (Fn.mono hSB ?_)
  rintro obs r ⟨rfl, rfl⟩
  conv => whnf
  repeat' (first
    | (refine NilG.mk fun bn hbn hbx => ?_; conv => whnf)
    | (refine Both.mk ?_ ?_ <;> conv => whnf)
    | ((first | (refine MkG.box 1 rfl rfl rfl (by decide) ?_) | (refine MkG.box 2 rfl rfl rfl (by decide) ?_) | (refine MkG.box 3 rfl rfl rfl (by decide) ?_) | (refine MkG.row ?_)); conv => whnf)
    | (refine LitG.row ?_; conv => whnf)
    | exact trivial
    | (refine Br.mk (fun hb => ?_) (fun hb => ?_) <;> (first | (exfalso; revert hb; decide) | ((try simp only [BL] at hb) <;> (try simp only [DL] at hb) <;> (first | (exfalso; omega) | (conv => whnf)))))
    | (refine And.intro ?_ ?_; (focus (first | exact id | exact rfl | exact trivial | (intro hg; first | exact hg | exact rfl | (simp; done) | (simp at hg ⊢; assumption)) | omega | decide | exact is2_c _ _ _ | exact is1_c _ _ | exact isS_c _ _ | exact isB_c _ _ | exact Nat.le_refl _ | assumption | exact mulLe (by decide) (by omega) | exact mulLe2 (by decide) (by omega) (by omega) | (intros; simp only [BL] at *; omega) | (intros; (try simp only [BL] at *); (try simp only [DL] at *); omega) | (intros; simp only [BL] at *; rw [wr_id (by omega) (by omega)]; omega) | (intro h1 h2; exact Bool.and_eq_true_iff.2 ⟨h1, h2⟩) | (intros; simp_all; done))); conv => whnf)
    | (refine Or.inr (And.intro rfl ?_); first | (refine congrArg intV ?_) | (refine congrArg boolV ?_) | (refine tupII ?_ ?_) | (refine tupIII ?_ ?_ ?_) | (refine tupU ?_ ?_ ?_ ?_ ?_) | exact rfl))
  have ef : (fun k j => cW Y (Int.toNat 0 + k) j) = cW Y := by
    funext k j
    show cW Y (0 + k) j = _
    rw [Nat.zero_add]
  have e3 : (((2 : Nat) : Int)).toNat - Int.toNat 0 = 2 := rfl
  rw [ef, e3]
  obtain ⟨hX3, hY2, hv1, hT, hQ, hR, hY0⟩ := kn_pre hA hs hs1 hs2 hB
  rw [hX, hY] at hQ hR
  rw [hX] at hX3 hT
  rw [hY] at hY2 hv1 hT hY0
  refine sem_loop tab_ok gamLg_ok mixed (by kernel_rfl) (O := ordDW) (fun p : Bool => ⟨[(4, .own 1), (8, intV ((s : Nat) : Int)), (9, .own 0), (10, .c (.sl 1 2 (cW Y))), (11, intV ((2 : Nat) : Int)), (12, intV (bif p then -1 else 0))], [.row 137 1 3 false (cW (bif p then kR A B * 2 ^ s else X)), .row 137 1 1 false (fun _ _ => .v (.int .u32 (bif p then ((dg (A / B) 0 : Nat) : Int) else 0)))]⟩) (fun p => True) (fun p => (bif p then 0 else 1)) ⟨false, [?_, ?_], trivial, ?_⟩ fun p hp => ?_
  rotate_left 2
  · refine Sub.of ?_ ?_ ?_
    repeat' (first | (refine And.intro ?_ ?_) | exact trivial | exact fun _ _ _ => hsc _ _ | (exact congrArg intV (by first | with_reducible rfl | with_reducible assumption)) | exact (rfl : AV.idsLt _ _ = true) | exact (rfl : _ = AV.ren _ (.own _)) | exact (rfl : _ = AV.ren _ (.fn _ _)) | exact (rfl : _ = AV.ren _ (.gh _)) | (exact congrArg intV (by assumption)) | (refine congrArg intV ((wr_id (by omega) (by omega)).trans (by omega))) | exact rfl | (simp only [NLc]; first | exact rfl | done) | exact all0 | exact fun h => Bool.noConfusion h | exact fun _ _ _ _ => rfl | omega)
    intro a ha b hb
    have ha : a < 1 := ha
    have hb : b < 1 := hb
    obtain rfl : b = 0 := by omega
    rfl
  have d0 := dg_lt X 0
  have d1 := dg_lt X 1
  have d2 := dg_lt X 2
  have v0 := dg_lt Y 0
  have v1 := dg_lt Y 1
  cases p with
  | true =>
    dsimp only [cond_true]
    conv => whnf
    repeat' (first
      | (refine NilG.mk fun bn hbn hbx => ?_; conv => whnf)
      | (refine Both.mk ?_ ?_ <;> conv => whnf)
      | ((first | (refine MkG.box 1 rfl rfl rfl (by decide) ?_) | (refine MkG.box 2 rfl rfl rfl (by decide) ?_) | (refine MkG.box 3 rfl rfl rfl (by decide) ?_) | (refine MkG.row ?_)); conv => whnf)
      | (refine LitG.row ?_; conv => whnf)
      | exact trivial
      | (refine Br.mk (fun hb => ?_) (fun hb => ?_) <;> (first | (exfalso; revert hb; decide) | ((try simp only [BL] at hb) <;> (try simp only [DL] at hb) <;> (first | (exfalso; omega) | (conv => whnf)))))
      | (refine And.intro ?_ ?_; (focus (first | exact id | exact rfl | exact trivial | (intro hg; first | exact hg | exact rfl | (simp; done) | (simp at hg ⊢; assumption)) | omega | decide | exact is2_c _ _ _ | exact is1_c _ _ | exact isS_c _ _ | exact isB_c _ _ | exact Nat.le_refl _ | assumption | exact mulLe (by decide) (by omega) | exact mulLe2 (by decide) (by omega) (by omega) | (intros; simp only [BL] at *; omega) | (intros; (try simp only [BL] at *); (try simp only [DL] at *); omega) | (intros; simp only [BL] at *; rw [wr_id (by omega) (by omega)]; omega) | (intro h1 h2; exact Bool.and_eq_true_iff.2 ⟨h1, h2⟩) | (intros; simp_all; done))); conv => whnf)
      | (refine Or.inr (And.intro rfl ?_); first | (refine congrArg intV ?_) | (refine congrArg boolV ?_) | (refine tupII ?_ ?_) | (refine tupIII ?_ ?_ ?_) | (refine tupU ?_ ?_ ?_ ?_ ?_) | exact rfl))
    refine sem_loop tab_ok gamLg_ok mixed (by kernel_rfl) (O := ordDW) (fun i : Nat => ⟨[(4, .own 1), (5, .own 2), (8, intV ((s : Nat) : Int)), (9, .own 0), (249, intV ((2 : Nat) : Int)), (250, intV ((i : Nat) : Int))], [.row 137 1 3 false (cW (kR A B * 2 ^ s)), .row 137 1 1 false (fun _ _ => .v (.int .u32 ((dg (A / B) 0 : Nat) : Int))), .row 137 1 2 false (krF A B i)]⟩) (fun i => i ≤ 2) (fun i => 2 - i) ⟨0, [?_, ?_, ?_], Nat.zero_le _, ?_⟩ fun i hi => ?_
    rotate_left 3
    · refine Sub.of ?_ ?_ ?_
      repeat' (first | (refine And.intro ?_ ?_) | exact trivial | exact fun _ _ _ => hsc _ _ | (exact congrArg intV (by first | with_reducible rfl | with_reducible assumption)) | exact (rfl : AV.idsLt _ _ = true) | exact (rfl : _ = AV.ren _ (.own _)) | exact (rfl : _ = AV.ren _ (.fn _ _)) | exact (rfl : _ = AV.ren _ (.gh _)) | (exact congrArg intV (by assumption)) | (refine congrArg intV ((wr_id (by omega) (by omega)).trans (by omega))) | exact rfl | (simp only [NLc]; first | exact rfl | done) | exact all0 | exact fun h => Bool.noConfusion h | exact fun _ _ _ _ => rfl | omega)
      intro a ha b hb
      have hb : b < 1 := hb
      obtain rfl : b = 0 := by omega
      show L.v (Value.int .u32 0) = L.v (Value.int .u32 (if a < 0 then _ else 0))
      rw [if_neg (by omega)]
    have a1 : IntKind.i64.wrap (((i : Nat) : Int) + 1) = ((i + 1 : Nat) : Int) := (wr_id (by omega) (by omega)).trans (by omega)
    have z0 := dg_lt (kR A B * 2 ^ s) i
    have z1 := dg_lt (kR A B * 2 ^ s) (i + 1)
    have wz0 : IntKind.u64.wrap ((dg (kR A B * 2 ^ s) i : Nat) : Int) = ((dg (kR A B * 2 ^ s) i : Nat) : Int) := wr64 (by omega)
    have wz1 : IntKind.u64.wrap ((dg (kR A B * 2 ^ s) (i + 1) : Nat) : Int) = ((dg (kR A B * 2 ^ s) (i + 1) : Nat) : Int) := wr64 (by omega)
    have wo : orI .u64 (shlI .u64 ((dg (kR A B * 2 ^ s) (i + 1) : Nat) : Int) 32) ((dg (kR A B * 2 ^ s) i : Nat) : Int) = ((dg (kR A B * 2 ^ s) (i + 1) * 4294967296 + dg (kR A B * 2 ^ s) i : Nat) : Int) := or64 z1 z0
    have ws : shrI .u64 ((dg (kR A B * 2 ^ s) (i + 1) * 4294967296 + dg (kR A B * 2 ^ s) i : Nat) : Int) ((s : Nat) : Int) = (((dg (kR A B * 2 ^ s) (i + 1) * 4294967296 + dg (kR A B * 2 ^ s) i) / 2 ^ s : Nat) : Int) := shrS (by omega)
    have w32 : IntKind.u32.wrap (((dg (kR A B * 2 ^ s) (i + 1) * 4294967296 + dg (kR A B * 2 ^ s) i) / 2 ^ s : Nat) : Int) = ((dg (kR A B) i : Nat) : Int) := by rw [wr32, unsh hs]
    conv => whnf
    repeat' (first
      | (refine NilG.mk fun bn hbn hbx => ?_; conv => whnf)
      | (refine Both.mk ?_ ?_ <;> conv => whnf)
      | ((first | (refine MkG.box 1 rfl rfl rfl (by decide) ?_) | (refine MkG.box 2 rfl rfl rfl (by decide) ?_) | (refine MkG.box 3 rfl rfl rfl (by decide) ?_) | (refine MkG.row ?_)); conv => whnf)
      | (refine LitG.row ?_; conv => whnf)
      | exact trivial
      | (refine Br.mk (fun hb => ?_) (fun hb => ?_) <;> (first | (exfalso; revert hb; decide) | ((try simp only [BL] at hb) <;> (try simp only [DL] at hb) <;> (first | (exfalso; omega) | (conv => whnf)))))
      | (refine And.intro ?_ ?_; (focus (first | exact id | exact rfl | exact trivial | (intro hg; first | exact hg | exact rfl | (simp; done) | (simp at hg ⊢; assumption)) | omega | decide | exact is2_c _ _ _ | exact is1_c _ _ | exact isS_c _ _ | exact isB_c _ _ | exact Nat.le_refl _ | assumption | exact mulLe (by decide) (by omega) | exact mulLe2 (by decide) (by omega) (by omega) | (intros; simp only [BL] at *; omega) | (intros; (try simp only [BL] at *); (try simp only [DL] at *); omega) | (intros; simp only [BL] at *; rw [wr_id (by omega) (by omega)]; omega) | (intro h1 h2; exact Bool.and_eq_true_iff.2 ⟨h1, h2⟩) | (intros; simp_all; done))); conv => whnf)
      | (refine Or.inr (And.intro rfl ?_); first | (refine congrArg intV ?_) | (refine congrArg boolV ?_) | (refine tupII ?_ ?_) | (refine tupIII ?_ ?_ ?_) | (refine tupU ?_ ?_ ?_ ?_ ?_) | exact rfl))
    · simp only [a1, Int.toNat_natCast, wz0, wz1, wo, ws, w32]
      refine ⟨i + 1, [?_, ?_, ?_], by omega, by omega, ?_⟩
      rotate_left 3
      refine Sub.of ?_ ?_ ?_
      repeat' (first | (refine And.intro ?_ ?_) | exact trivial | exact fun _ _ _ => hsc _ _ | (exact congrArg intV (by first | with_reducible rfl | with_reducible assumption)) | exact (rfl : AV.idsLt _ _ = true) | exact (rfl : _ = AV.ren _ (.own _)) | exact (rfl : _ = AV.ren _ (.fn _ _)) | exact (rfl : _ = AV.ren _ (.gh _)) | (exact congrArg intV (by assumption)) | (refine congrArg intV ((wr_id (by omega) (by omega)).trans (by omega))) | exact rfl | (simp only [NLc]; first | exact rfl | done) | exact all0 | exact fun h => Bool.noConfusion h | exact fun _ _ _ _ => rfl | omega)
      refine row_set1 ?_ fun a ha hne => ?_
      · show _ = L.v (Value.int .u32 (if i < i + 1 then _ else 0))
        rw [if_pos (by omega)]
      · show L.v (Value.int .u32 (if a < i then _ else 0)) = L.v (Value.int .u32 (if a < i + 1 then _ else 0))
        by_cases h : a < i
        · rw [if_pos h, if_pos (by omega)]
        · rw [if_neg h, if_neg (by omega)]
    · obtain rfl : i = 2 := by omega
      refine .inr ⟨rfl, _, _, rfl, fun a ha b hb => ?_, fun a ha b hb => ?_⟩
      · obtain rfl : a = 0 := by omega
        rfl
      · show L.v (Value.int .u32 (if a < 2 then _ else 0)) = L.v (Value.int .u32 ((dg (A % B) a : Nat) : Int))
        rw [if_pos ha]
  | false =>
    dsimp only [cond_false]
    have i1 : (IntKind.i64.wrap (((2 : Nat) : Int) - 1)).toNat = 1 := rfl
    have i2 : (IntKind.i64.wrap (IntKind.i64.wrap (0 + ((2 : Nat) : Int)) - 1)).toNat = 1 := rfl
    have i3 : (IntKind.i64.wrap (0 + ((2 : Nat) : Int))).toNat = 2 := rfl
    have wv1 : IntKind.u64.wrap ((dg Y 1 : Nat) : Int) = ((dg Y 1 : Nat) : Int) := wr64 (by omega)
    have wx1 : IntKind.u64.wrap ((dg X 1 : Nat) : Int) = ((dg X 1 : Nat) : Int) := wr64 (by omega)
    have wx2 : IntKind.u64.wrap ((dg X 2 : Nat) : Int) = ((dg X 2 : Nat) : Int) := wr64 (by omega)
    have wtop : orI .u64 (shlI .u64 ((dg X 2 : Nat) : Int) 32) ((dg X 1 : Nat) : Int) = ((kT X : Nat) : Int) := or64 d2 d1
    have hT1 : kT X / dg Y 1 < 4294967296 := by
      rw [Nat.div_lt_iff_lt_mul (by omega), Nat.mul_comm]
      exact hT
    have wg : IntKind.u64.wrap (((kT X : Nat) : Int).tdiv ((dg Y 1 : Nat) : Int)) = ((kT X / dg Y 1 : Nat) : Int) := by
      rw [Int.tdiv_eq_ediv_of_nonneg (by omega), ← Int.natCast_ediv]
      exact wr64 (by omega)
    have wm : ((kT X : Nat) : Int).tmod ((dg Y 1 : Nat) : Int) = ((kT X % dg Y 1 : Nat) : Int) := by
      rw [Int.tmod_eq_emod_of_nonneg (by omega), ← Int.natCast_emod]
    conv => whnf
    repeat' (first
      | (refine NilG.mk fun bn hbn hbx => ?_; conv => whnf)
      | (refine Both.mk ?_ ?_ <;> conv => whnf)
      | ((first | (refine MkG.box 1 rfl rfl rfl (by decide) ?_) | (refine MkG.box 2 rfl rfl rfl (by decide) ?_) | (refine MkG.box 3 rfl rfl rfl (by decide) ?_) | (refine MkG.row ?_)); conv => whnf)
      | (refine LitG.row ?_; conv => whnf)
      | exact trivial
      | (refine Br.mk (fun hb => ?_) (fun hb => ?_) <;> (first | (exfalso; revert hb; decide) | ((try simp only [BL] at hb) <;> (try simp only [DL] at hb) <;> (first | (exfalso; omega) | (conv => whnf)))))
      | (refine And.intro ?_ ?_; (focus (first | exact id | exact rfl | exact trivial | (intro hg; first | exact hg | exact rfl | (simp; done) | (simp at hg ⊢; assumption)) | omega | decide | exact is2_c _ _ _ | exact is1_c _ _ | exact isS_c _ _ | exact isB_c _ _ | exact Nat.le_refl _ | assumption | exact mulLe (by decide) (by omega) | exact mulLe2 (by decide) (by omega) (by omega) | (intros; simp only [BL] at *; omega) | (intros; (try simp only [BL] at *); (try simp only [DL] at *); omega) | (intros; simp only [BL] at *; rw [wr_id (by omega) (by omega)]; omega) | (intro h1 h2; exact Bool.and_eq_true_iff.2 ⟨h1, h2⟩) | (intros; simp_all; done))); conv => whnf)
      | (refine Or.inr (And.intro rfl ?_); first | (refine congrArg intV ?_) | (refine congrArg boolV ?_) | (refine tupII ?_ ?_) | (refine tupIII ?_ ?_ ?_) | (refine tupU ?_ ?_ ?_ ?_ ?_) | exact rfl))
    refine And.intro (by rw [i1, wv1]; omega) ?_
    rw [i1, wv1]
    conv => whnf
    repeat' (first
      | (refine NilG.mk fun bn hbn hbx => ?_; conv => whnf)
      | (refine Both.mk ?_ ?_ <;> conv => whnf)
      | ((first | (refine MkG.box 1 rfl rfl rfl (by decide) ?_) | (refine MkG.box 2 rfl rfl rfl (by decide) ?_) | (refine MkG.box 3 rfl rfl rfl (by decide) ?_) | (refine MkG.row ?_)); conv => whnf)
      | (refine LitG.row ?_; conv => whnf)
      | exact trivial
      | (refine Br.mk (fun hb => ?_) (fun hb => ?_) <;> (first | (exfalso; revert hb; decide) | ((try simp only [BL] at hb) <;> (try simp only [DL] at hb) <;> (first | (exfalso; omega) | (conv => whnf)))))
      | (refine And.intro ?_ ?_; (focus (first | exact id | exact rfl | exact trivial | (intro hg; first | exact hg | exact rfl | (simp; done) | (simp at hg ⊢; assumption)) | omega | decide | exact is2_c _ _ _ | exact is1_c _ _ | exact isS_c _ _ | exact isB_c _ _ | exact Nat.le_refl _ | assumption | exact mulLe (by decide) (by omega) | exact mulLe2 (by decide) (by omega) (by omega) | (intros; simp only [BL] at *; omega) | (intros; (try simp only [BL] at *); (try simp only [DL] at *); omega) | (intros; simp only [BL] at *; rw [wr_id (by omega) (by omega)]; omega) | (intro h1 h2; exact Bool.and_eq_true_iff.2 ⟨h1, h2⟩) | (intros; simp_all; done))); conv => whnf)
      | (refine Or.inr (And.intro rfl ?_); first | (refine congrArg intV ?_) | (refine congrArg boolV ?_) | (refine tupII ?_ ?_) | (refine tupIII ?_ ?_ ?_) | (refine tupU ?_ ?_ ?_ ?_ ?_) | exact rfl))
    refine And.intro (by rw [i1, wv1]; omega) ?_
    rw [i1, wv1]
    conv => whnf
    repeat' (first
      | (refine NilG.mk fun bn hbn hbx => ?_; conv => whnf)
      | (refine Both.mk ?_ ?_ <;> conv => whnf)
      | ((first | (refine MkG.box 1 rfl rfl rfl (by decide) ?_) | (refine MkG.box 2 rfl rfl rfl (by decide) ?_) | (refine MkG.box 3 rfl rfl rfl (by decide) ?_) | (refine MkG.row ?_)); conv => whnf)
      | (refine LitG.row ?_; conv => whnf)
      | exact trivial
      | (refine Br.mk (fun hb => ?_) (fun hb => ?_) <;> (first | (exfalso; revert hb; decide) | ((try simp only [BL] at hb) <;> (try simp only [DL] at hb) <;> (first | (exfalso; omega) | (conv => whnf)))))
      | (refine And.intro ?_ ?_; (focus (first | exact id | exact rfl | exact trivial | (intro hg; first | exact hg | exact rfl | (simp; done) | (simp at hg ⊢; assumption)) | omega | decide | exact is2_c _ _ _ | exact is1_c _ _ | exact isS_c _ _ | exact isB_c _ _ | exact Nat.le_refl _ | assumption | exact mulLe (by decide) (by omega) | exact mulLe2 (by decide) (by omega) (by omega) | (intros; simp only [BL] at *; omega) | (intros; (try simp only [BL] at *); (try simp only [DL] at *); omega) | (intros; simp only [BL] at *; rw [wr_id (by omega) (by omega)]; omega) | (intro h1 h2; exact Bool.and_eq_true_iff.2 ⟨h1, h2⟩) | (intros; simp_all; done))); conv => whnf)
      | (refine Or.inr (And.intro rfl ?_); first | (refine congrArg intV ?_) | (refine congrArg boolV ?_) | (refine tupII ?_ ?_) | (refine tupIII ?_ ?_ ?_) | (refine tupU ?_ ?_ ?_ ?_ ?_) | exact rfl))
    simp only [i1, i2, i3, wx2, wx1, wtop, wv1, wg, wm]
    have hqg := kn_first hX3 (by omega) hY2
    have hgr : kT X / dg Y 1 * dg Y 1 + kT X % dg Y 1 = kT X := Nat.div_add_mod' _ _
    obtain ⟨Q, hQQ⟩ : ∃ Q, X / Y = Q := ⟨_, rfl⟩
    rw [hQQ] at hqg
    have hrl : kR (kT X) (dg Y 1) < 4294967296 := Nat.lt_trans (Nat.mod_lt _ (by omega)) v1
    refine sem_loop tab_ok gamLg_ok mixed (by kernel_rfl) (O := ordDW) (fun x : Nat × Nat => ⟨[(4, .own 1), (8, intV ((s : Nat) : Int)), (9, .own 0), (10, .c (.sl 1 2 (cW Y))), (11, intV ((2 : Nat) : Int)), (12, intV 0), (14, u64V ((x.1 : Nat) : Int)), (15, u64V ((x.2 : Nat) : Int))], [.row 137 1 3 false (cW X), .row 137 1 1 false (fun _ _ => .v (.int .u32 0))]⟩) (fun x => Q ≤ x.1 ∧ x.1 * dg Y 1 + x.2 = kT X ∧ x.1 < 4294967296 ∧ x.2 < 4294967296) (fun x => x.1) ⟨(kT X / dg Y 1, kR (kT X) (dg Y 1)), [?_, ?_], ⟨hqg, hgr, hT1, hrl⟩, ?_⟩ fun x hx => ?_
    rotate_left 2
    · refine Sub.of ?_ ?_ ?_
      repeat' (first | (refine And.intro ?_ ?_) | exact trivial | exact fun _ _ _ => hsc _ _ | (exact congrArg intV (by first | with_reducible rfl | with_reducible assumption)) | exact (rfl : AV.idsLt _ _ = true) | exact (rfl : _ = AV.ren _ (.own _)) | exact (rfl : _ = AV.ren _ (.fn _ _)) | exact (rfl : _ = AV.ren _ (.gh _)) | (exact congrArg intV (by assumption)) | (refine congrArg intV ((wr_id (by omega) (by omega)).trans (by omega))) | exact rfl | (simp only [NLc]; first | exact rfl | done) | exact all0 | exact fun h => Bool.noConfusion h | exact fun _ _ _ _ => rfl | omega)
    obtain ⟨g, r⟩ := x
    obtain ⟨hq, ht, hg, hr⟩ := hx
    simp only at hq ht hg hr
    dsimp only
    clear wtop wg wm hT1 hrl hgr hqg wx1 wx2
    have j2 : (IntKind.i64.wrap (((2 : Nat) : Int) - 2)).toNat = 0 := rfl
    have j3 : (IntKind.i64.wrap (IntKind.i64.wrap (0 + ((2 : Nat) : Int)) - 2)).toNat = 0 := rfl
    have wy0 : IntKind.u64.wrap ((dg Y 0 : Nat) : Int) = ((dg Y 0 : Nat) : Int) := wr64 (by omega)
    have wx0 : IntKind.u64.wrap ((dg X 0 : Nat) : Int) = ((dg X 0 : Nat) : Int) := wr64 (by omega)
    have hgv : g * dg Y 0 ≤ 4294967295 * 4294967295 := Nat.mul_le_mul (by omega) (by omega)
    have wgv : IntKind.u64.wrap (((g : Nat) : Int) * ((dg Y 0 : Nat) : Int)) = ((g * dg Y 0 : Nat) : Int) := by
      rw [← Int.natCast_mul]
      exact wr64 (by omega)
    have wor : orI .u64 (shlI .u64 ((r : Nat) : Int) 32) ((dg X 0 : Nat) : Int) = ((r * 4294967296 + dg X 0 : Nat) : Int) := or64 hr d0
    have wrv : IntKind.u64.wrap (((r : Nat) : Int) + ((dg Y 1 : Nat) : Int)) = ((r + dg Y 1 : Nat) : Int) := by
      rw [← Int.natCast_add]
      exact wr64 (by omega)
    have wg1 : 0 < g → IntKind.u64.wrap (((g : Nat) : Int) - 1) = ((g - 1 : Nat) : Int) := fun h => by
      rw [show (((g : Nat) : Int) - 1) = ((g - 1 : Nat) : Int) by omega]
      exact wr64 (by omega)
    have hdg : decide (((g : Nat) : Int) ≥ 4294967296) = false := decide_eq_false (by omega)
    conv => whnf
    rw [hdg]
    conv => whnf
    repeat' (first
      | (refine NilG.mk fun bn hbn hbx => ?_; conv => whnf)
      | (refine Both.mk ?_ ?_ <;> conv => whnf)
      | ((first | (refine MkG.box 1 rfl rfl rfl (by decide) ?_) | (refine MkG.box 2 rfl rfl rfl (by decide) ?_) | (refine MkG.box 3 rfl rfl rfl (by decide) ?_) | (refine MkG.row ?_)); conv => whnf)
      | (refine LitG.row ?_; conv => whnf)
      | exact trivial
      | (refine Br.mk (fun hb => ?_) (fun hb => ?_) <;> (first | (exfalso; revert hb; decide) | ((try simp only [BL] at hb) <;> (try simp only [DL] at hb) <;> (first | (exfalso; omega) | (conv => whnf)))))
      | (refine And.intro ?_ ?_; (focus (first | exact id | exact rfl | exact trivial | (intro hg; first | exact hg | exact rfl | (simp; done) | (simp at hg ⊢; assumption)) | omega | decide | exact is2_c _ _ _ | exact is1_c _ _ | exact isS_c _ _ | exact isB_c _ _ | exact Nat.le_refl _ | assumption | exact mulLe (by decide) (by omega) | exact mulLe2 (by decide) (by omega) (by omega) | (intros; simp only [BL] at *; omega) | (intros; (try simp only [BL] at *); (try simp only [DL] at *); omega) | (intros; simp only [BL] at *; rw [wr_id (by omega) (by omega)]; omega) | (intro h1 h2; exact Bool.and_eq_true_iff.2 ⟨h1, h2⟩) | (intros; simp_all; done))); conv => whnf)
      | (refine Or.inr (And.intro rfl ?_); first | (refine congrArg intV ?_) | (refine congrArg boolV ?_) | (refine tupII ?_ ?_) | (refine tupIII ?_ ?_ ?_) | (refine tupU ?_ ?_ ?_ ?_ ?_) | exact rfl))
    rotate_left
    · have hb1 := hb
      have hgo : r * 4294967296 + dg X 0 < g * dg Y 0 := by
        rename_i h0
        simp only [j2, j3, wy0, wx0, wgv, wor] at h0
        rcases h0 with h0 | h0
        · cases h0
        · exact Int.ofNat_lt.1 h0
      have hlt := kn_more hX3 (by omega) hY2 ht hgo
      rw [hQQ] at hlt
      obtain ⟨g, rfl⟩ : ∃ k, g = k + 1 := ⟨g - 1, by omega⟩
      have wg2 := wg1 (by omega)
      rw [Nat.add_sub_cancel] at wg2
      simp only [i1, wv1, wrv] at hb1
      rw [Nat.add_mul, Nat.one_mul] at ht
      simp only [i1, wv1, wrv, wg2]
      refine ⟨(g, r + dg Y 1), [?_, ?_], ⟨by show _ ≤ g; omega, by show g * dg Y 1 + (r + dg Y 1) = _; omega, by show g < _; omega, by show r + dg Y 1 < _; omega⟩, by show g < _; omega, ?_⟩
      rotate_left 2
      refine Sub.of ?_ ?_ ?_
      repeat' (first | (refine And.intro ?_ ?_) | exact trivial | exact fun _ _ _ => hsc _ _ | (exact congrArg intV (by first | with_reducible rfl | with_reducible assumption)) | exact (rfl : AV.idsLt _ _ = true) | exact (rfl : _ = AV.ren _ (.own _)) | exact (rfl : _ = AV.ren _ (.fn _ _)) | exact (rfl : _ = AV.ren _ (.gh _)) | (exact congrArg intV (by assumption)) | (refine congrArg intV ((wr_id (by omega) (by omega)).trans (by omega))) | exact rfl | (simp only [NLc]; first | exact rfl | done) | exact all0 | exact fun h => Bool.noConfusion h | exact fun _ _ _ _ => rfl | omega)
    have hgQ : g = Q := by
      have hb2 := hb.2
      simp only [j2, j3, wy0, wx0, wgv, wor] at hb2
      refine (kn_stop hX3 (by omega) hY2 (by rw [hQQ]; exact hq) ht ?_).trans hQQ
      exact Int.ofNat_le.1 (Int.not_lt.1 hb2)
    rw [hgQ]
    rotate_left
    have hb1 := hb
    have hgo : r * 4294967296 + dg X 0 < g * dg Y 0 := by
      rename_i h0
      simp only [j2, j3, wy0, wx0, wgv, wor] at h0
      rcases h0 with h0 | h0
      · cases h0
      · exact Int.ofNat_lt.1 h0
    have hlt := kn_more hX3 (by omega) hY2 ht hgo
    rw [hQQ] at hlt
    obtain ⟨g', rfl⟩ : ∃ k, g = k + 1 := ⟨g - 1, by omega⟩
    have wg2 := wg1 (by omega)
    rw [Nat.add_sub_cancel] at wg2
    simp only [i1, wv1, wrv] at hb1
    rw [Nat.add_mul, Nat.one_mul] at ht
    have hgQ : g' = Q := by
      refine (kn_stop hX3 (by omega) hY2 (by omega) (r := r + dg Y 1) (by omega) ?_).trans hQQ
      have h1 : g' * dg Y 0 ≤ 4294967296 * 4294967295 := Nat.mul_le_mul (by omega) (by omega)
      omega
    rw [wg2, hgQ]
    all_goals
      have hQ4 : X / Y < 4294967296 := by rw [hQQ]; omega
      have hPX : Q * Y ≤ X := by rw [← hQQ]; exact Nat.div_mul_le_self X Y
      obtain ⟨l1, l2, l3⟩ := kn_last hX3 hY2
      rw [hQQ] at hQ4 l1 l2 l3
      have e5 : (0 : Int) = -((sBw X (Q * Y) 0 : Nat) : Int) := by simp [sBw, lw_zero]
      have e6 : (0 : Int) = ((mCy 0 Q Y 0 0 : Nat) : Int) := by rw [mu_zero]; rfl
      clear hq ht hr hg hgv wor wrv wg1 hdg
      refine sem_loop tab_ok gamLg_ok mixed (by kernel_rfl) (O := ordDW) (fun i : Nat => ⟨[(4, .own 1), (8, intV ((s : Nat) : Int)), (9, .own 0), (10, .c (.sl 1 2 (cW Y))), (11, intV ((2 : Nat) : Int)), (12, intV 0), (14, u64V ((Q : Nat) : Int)), (16, intV (-((sBw X (Q * Y) i : Nat) : Int))), (17, u64V ((mCy 0 Q Y 0 i : Nat) : Int)), (142, intV ((2 : Nat) : Int)), (143, intV ((i : Nat) : Int))], [.row 137 1 3 false (kuF X (Q * Y) i), .row 137 1 1 false (fun _ _ => .v (.int .u32 0))]⟩) (fun i => i ≤ 2) (fun i => 2 - i) ⟨0, [?_, ?_], Nat.zero_le _, ?_⟩ fun i hi => ?_
      rotate_left 2
      · refine Sub.of ?_ ?_ ?_
        repeat' (first | (refine And.intro ?_ ?_) | exact trivial | exact fun _ _ _ => hsc _ _ | (exact congrArg intV (by first | with_reducible rfl | with_reducible assumption)) | exact (rfl : AV.idsLt _ _ = true) | exact (rfl : _ = AV.ren _ (.own _)) | exact (rfl : _ = AV.ren _ (.fn _ _)) | exact (rfl : _ = AV.ren _ (.gh _)) | (exact congrArg intV (by assumption)) | (refine congrArg intV ((wr_id (by omega) (by omega)).trans (by omega))) | exact rfl | (simp only [NLc]; first | exact rfl | done) | exact all0 | exact fun h => Bool.noConfusion h | exact fun _ _ _ _ => rfl | omega)
        exact (congrArg (fun z : Int => u64V z) e6 : _)
      obtain ⟨c1, c2, c3⟩ := kn_car Q Y i hQ4
      have hsu := su_step hPX i
      obtain ⟨w1, w2, w3, w4, w5, w6, w7, w8, w9, w10, w11⟩ := kn_w c3 hQ4 (dg_lt Y i) (dg_lt X i) (dg_lt (X - Q * Y) i) (sBw_le X (Q * Y) i) (sBw_le X (Q * Y) (i + 1)) c1 c2 hsu
      have a1 : IntKind.i64.wrap (((i : Nat) : Int) + 0) = ((i : Nat) : Int) := (wr_id (by omega) (by omega)).trans (by omega)
      have a2 : (if i < i then ((dg (X - Q * Y) i : Nat) : Int) else ((dg X i : Nat) : Int)) = ((dg X i : Nat) : Int) := if_neg (by omega)
      conv => whnf
      repeat' (first
        | (refine NilG.mk fun bn hbn hbx => ?_; conv => whnf)
        | (refine Both.mk ?_ ?_ <;> conv => whnf)
        | ((first | (refine MkG.box 1 rfl rfl rfl (by decide) ?_) | (refine MkG.box 2 rfl rfl rfl (by decide) ?_) | (refine MkG.box 3 rfl rfl rfl (by decide) ?_) | (refine MkG.row ?_)); conv => whnf)
        | (refine LitG.row ?_; conv => whnf)
        | exact trivial
        | (refine Br.mk (fun hb => ?_) (fun hb => ?_) <;> (first | (exfalso; revert hb; decide) | ((try simp only [BL] at hb) <;> (try simp only [DL] at hb) <;> (first | (exfalso; omega) | (conv => whnf)))))
        | (refine And.intro ?_ ?_; (focus (first | exact id | exact rfl | exact trivial | (intro hg; first | exact hg | exact rfl | (simp; done) | (simp at hg ⊢; assumption)) | omega | decide | exact is2_c _ _ _ | exact is1_c _ _ | exact isS_c _ _ | exact isB_c _ _ | exact Nat.le_refl _ | assumption | exact mulLe (by decide) (by omega) | exact mulLe2 (by decide) (by omega) (by omega) | (intros; simp only [BL] at *; omega) | (intros; (try simp only [BL] at *); (try simp only [DL] at *); omega) | (intros; simp only [BL] at *; rw [wr_id (by omega) (by omega)]; omega) | (intro h1 h2; exact Bool.and_eq_true_iff.2 ⟨h1, h2⟩) | (intros; simp_all; done))); conv => whnf)
        | (refine Or.inr (And.intro rfl ?_); first | (refine congrArg intV ?_) | (refine congrArg boolV ?_) | (refine tupII ?_ ?_) | (refine tupIII ?_ ?_ ?_) | (refine tupU ?_ ?_ ?_ ?_ ?_) | exact rfl))
      · have hrow : ∀ a, a < 3 → a ≠ i → kuF X (Q * Y) i a 0 = kuF X (Q * Y) (i + 1) a 0 := fun a ha hne => by
          show L.v (Value.int .u32 (if a < i then _ else _)) = L.v (Value.int .u32 (if a < i + 1 then _ else _))
          by_cases h : a < i
          · rw [if_pos h, if_pos (by omega)]
          · rw [if_neg h, if_neg (by omega)]
        have hnew : L.v (Value.int .u32 ((dg (X - Q * Y) i : Nat) : Int)) = kuF X (Q * Y) (i + 1) i 0 := by
          show _ = L.v (Value.int .u32 (if i < i + 1 then _ else _))
          rw [if_pos (by omega)]
        simp only [a1, Int.toNat_natCast, a2, w1, w2, w3, w4, w5, w6, w7, w8, w9, w10, w11]
        refine ⟨i + 1, [?_, ?_], by omega, by omega, ?_⟩
        rotate_left 2
        refine Sub.of ?_ ?_ ?_
        repeat' (first | (refine And.intro ?_ ?_) | exact trivial | exact fun _ _ _ => hsc _ _ | (exact congrArg intV (by first | with_reducible rfl | with_reducible assumption)) | exact (rfl : AV.idsLt _ _ = true) | exact (rfl : _ = AV.ren _ (.own _)) | exact (rfl : _ = AV.ren _ (.fn _ _)) | exact (rfl : _ = AV.ren _ (.gh _)) | (exact congrArg intV (by assumption)) | (refine congrArg intV ((wr_id (by omega) (by omega)).trans (by omega))) | exact rfl | (simp only [NLc]; first | exact rfl | done) | exact all0 | exact fun h => Bool.noConfusion h | exact fun _ _ _ _ => rfl | omega)
        exact row_set1 hnew hrow
      · exfalso
        obtain rfl : i = 2 := by omega
        have l4 : sBw X (Q * Y) (2 + 1) = 0 := l2
        rw [l4] at w8
        simp only [i3, a2, w6, l1, w5, w7, w8] at hb
        exact kn_nn hb
      · obtain rfl : i = 2 := by omega
        have l4 : sBw X (Q * Y) (2 + 1) = 0 := l2
        rw [l4] at w8 w9
        have wq : IntKind.u32.wrap ((Q : Nat) : Int) = ((Q : Nat) : Int) := wr32_id hQ4
        have e9 : kR A B * 2 ^ s = X - Q * Y := by rw [l3, hR]
        have e10 : dg (A / B) 0 = Q := by rw [← hQ, hQQ]; exact dg_one hQ4
        simp only [i3, a2, w6, l1, w5, w7, w8, w9, wq]
        refine ⟨true, [?_, ?_], trivial, by decide, ?_⟩
        rotate_left 2
        refine Sub.of ?_ ?_ ?_
        repeat' (first | (refine And.intro ?_ ?_) | exact trivial | exact fun _ _ _ => hsc _ _ | (exact congrArg intV (by first | with_reducible rfl | with_reducible assumption)) | exact (rfl : AV.idsLt _ _ = true) | exact (rfl : _ = AV.ren _ (.own _)) | exact (rfl : _ = AV.ren _ (.fn _ _)) | exact (rfl : _ = AV.ren _ (.gh _)) | (exact congrArg intV (by assumption)) | (refine congrArg intV ((wr_id (by omega) (by omega)).trans (by omega))) | exact rfl | (simp only [NLc]; first | exact rfl | done) | exact all0 | exact fun h => Bool.noConfusion h | exact fun _ _ _ _ => rfl | omega)
        · intro a ha b hb
          refine (row_set1 (n := 3) (g := cW (X - Q * Y)) rfl (fun a ha hne => ?_) a ha b hb).trans ?_
          · show L.v (Value.int .u32 (if a < 2 then _ else _)) = L.v (Value.int .u32 _)
            rw [if_pos (by omega)]
          · show cW (X - Q * Y) a b = cW (kR A B * 2 ^ s) a b
            rw [e9]
        · intro a ha b hb
          have ha : a < 1 := ha
          obtain rfl : a = 0 := by omega
          have hb : b < 1 := hb
          obtain rfl : b = 0 := by omega
          show L.v (Value.int .u32 ((Q : Nat) : Int)) = L.v (Value.int .u32 ((dg (A / B) 0 : Nat) : Int))
          rw [e10]
/-- divWords for all that is reckoned with here -/
theorem lgDivX (A B : Nat) (hA : wl A ≤ 500) (hB0 : 0 < B) (hB : B < 4294967296 ∨ A < B ∨ A < 18446744073709551616) (hBl : wl B ≤ 500) : Fn Tryd.prog 123 [wdN A, wdN B] (dvK A B) := by
  by_cases h1 : B < 4294967296
  · exact lgDivW A B hA hB0 (.inl h1) hBl
  by_cases h2 : A < B
  · exact lgDivW A B hA hB0 (.inr h2) hBl
  have hA2 : A < 4294967296 ^ 2 := (hB.resolve_left h1).resolve_left h2
  have hB2 : B < 4294967296 ^ 2 := Nat.lt_of_le_of_lt (Nat.le_of_not_lt h2) hA2
  have wB : wl B = 2 := by
    have a1 := wl_le.2 hB2
    have a2 : ¬ wl B ≤ 1 := fun h => h1 (by simpa using wl_le.1 h)
    omega
  have wA : wl A = 2 := by
    have a1 := wl_le.2 hA2
    have a2 := wl_mono (Nat.le_of_not_lt h2)
    omega
  have hv : 0 < dg B 1 := by
    rw [dg_div B 1 hB2, Nat.pow_one]
    exact Nat.div_pos (Nat.le_of_not_lt h1) (by decide)
  have h := knDiv A B hA2 hB2 hv (Nat.le_of_not_lt h2) wA wB
  have e : [wdV 2 A, wdV 2 B] = [wdN A, wdN B] := by
    unfold wdN
    rw [wA, wB]
  rw [e] at h
  refine Fn.res h ?_
  rintro obs r ⟨rfl, f, g, rfl, hf, hg⟩
  have hq : A / B < 4294967296 ^ 1 := by
    rw [Nat.pow_one, Nat.div_lt_iff_lt_mul hB0]
    have : 4294967296 * 4294967296 ≤ 4294967296 * B := Nat.mul_le_mul_left _ (Nat.le_of_not_lt h1)
    exact Nat.lt_of_lt_of_le hA2 this
  exact ⟨_, ⟨rfl, 1, 2, by decide, by decide, hq, Nat.lt_trans (Nat.mod_lt _ hB0) hB2, rfl⟩, Le1.tup (Le.cons (Le1.sl hf) (Le.cons (Le1.sl hg) Le.nil))⟩
end Go.Proofs.YtjfnhehjhicnoaaDoor
