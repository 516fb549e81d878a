/-
  Large numbers: Mul.
-/
import Derived.Test.YtjfnhehjhicnoaaDoorLgE
namespace Go.Proofs.YtjfnhehjhicnoaaDoor
open Go.RowKit

theorem dg_lw (A j : Nat) : dg A j = lw A (j + 1) / 4294967296 ^ j := by
  rw [lw_succ, Nat.add_mul_div_right _ _ (pw_pos j), Nat.div_eq_of_lt (lw_lt A j), Nat.zero_add]
/-- Mul: what is carried into word i + k -/
def mCy (M x B i k : Nat) : Nat := (lw M (i + k) + x * 4294967296 ^ i * lw B k) / 4294967296 ^ (i + k)
theorem mu_sum (M x B i k : Nat) : lw M (i + k + 1) + x * 4294967296 ^ i * lw B (k + 1) = lw M (i + k) + x * 4294967296 ^ i * lw B k + (dg M (i + k) + x * dg B k) * 4294967296 ^ (i + k) := by
  rw [lw_succ, lw_succ, Nat.pow_add]
  generalize 4294967296 ^ i = P
  generalize 4294967296 ^ k = Q
  rw [Nat.mul_add, Nat.add_mul]
  have : x * P * (dg B k * Q) = x * dg B k * (P * Q) := by
    rw [Nat.mul_assoc x P, ← Nat.mul_assoc P, Nat.mul_comm P, Nat.mul_assoc (dg B k), ← Nat.mul_assoc x]
  omega
theorem mu_lt (M x B i k : Nat) (hx : x < 4294967296) : mCy M x B i k < 4294967296 := by
  unfold mCy
  rw [Nat.div_lt_iff_lt_mul (pw_pos _)]
  have h1 := lw_lt M (i + k)
  have h2 := lw_lt B k
  have h3 : x * 4294967296 ^ i * lw B k ≤ 4294967295 * 4294967296 ^ (i + k) := by
    rw [Nat.pow_add, ← Nat.mul_assoc]
    exact Nat.mul_le_mul (Nat.mul_le_mul_right _ (by omega)) (by omega)
  omega
theorem mu_step (M x B i k : Nat) (hx : x < 4294967296) : (mCy M x B i k + (dg M (i + k) + x * dg B k)) % 4294967296 = dg (M + x * 4294967296 ^ i * B) (i + k) ∧ (mCy M x B i k + (dg M (i + k) + x * dg B k)) / 4294967296 = mCy M x B i (k + 1) := by
  have hp := pw_pos (i + k)
  have hs : (lw M (i + k + 1) + x * 4294967296 ^ i * lw B (k + 1)) / 4294967296 ^ (i + k) = mCy M x B i k + (dg M (i + k) + x * dg B k) := by
    rw [mu_sum, Nat.add_mul_div_right _ _ hp]
    rfl
  refine ⟨?_, ?_⟩
  · rw [← hs]
    unfold dg
    rw [← Nat.mod_mul_right_div_self, ← Nat.mod_mul_right_div_self, ← pw_succ]
    congr 1
    have e1 : 4294967296 ^ (i + k + 1) = 4294967296 ^ i * 4294967296 ^ (k + 1) := by rw [Nat.add_assoc, Nat.pow_add]
    have e2 : x * 4294967296 ^ i * lw B (k + 1) % 4294967296 ^ (i + k + 1) = x * 4294967296 ^ i * B % 4294967296 ^ (i + k + 1) := by
      unfold lw
      rw [e1, Nat.mul_assoc, Nat.mul_assoc, Nat.mul_mod x, Nat.mul_mod_mul_left, Nat.mod_mod, ← Nat.mul_mod_mul_left, ← Nat.mul_mod]
    rw [Nat.add_mod, e2]
    unfold lw
    rw [Nat.mod_mod, ← Nat.add_mod]
  · rw [← hs, Nat.div_div_eq_div_mul, ← pw_succ]
    rfl
theorem mu_w {c d x y s q : Nat} (hc : c < 4294967296) (hd : d < 4294967296) (hx : x < 4294967296) (hy : y < 4294967296) (hs : (c + (d + x * y)) % 4294967296 = s) (hq : (c + (d + x * y)) / 4294967296 = q) :
    IntKind.u64.wrap ((d : Nat) : Int) = ((d : Nat) : Int) ∧ IntKind.u64.wrap ((x : Nat) : Int) = ((x : Nat) : Int) ∧ IntKind.u64.wrap ((y : Nat) : Int) = ((y : Nat) : Int) ∧ IntKind.u64.wrap (((x : Nat) : Int) * ((y : Nat) : Int)) = ((x * y : Nat) : Int) ∧
    IntKind.u64.wrap (((d : Nat) : Int) + ((x * y : Nat) : Int)) = ((d + x * y : Nat) : Int) ∧ IntKind.u64.wrap (((c : Nat) : Int) + ((d + x * y : Nat) : Int)) = ((c + (d + x * y) : Nat) : Int) ∧ IntKind.u32.wrap ((c + (d + x * y) : Nat) : Int) = ((s : Nat) : Int) ∧
    shrI .u64 ((c + (d + x * y) : Nat) : Int) 32 = ((q : Nat) : Int) := by
  have hm : x * y ≤ 4294967295 * 4294967295 := Nat.mul_le_mul (by omega) (by omega)
  rw [show ((x : Nat) : Int) * ((y : Nat) : Int) = ((x * y : Nat) : Int) from (Int.natCast_mul x y).symm]
  generalize x * y = m at *
  refine ⟨wr64 (by omega), wr64 (by omega), wr64 (by omega), wr64 (by omega), ?_, ?_, by rw [wr32, hs], by rw [shr64, hq]⟩
  · rw [← Int.natCast_add]
    exact wr64 (by omega)
  · rw [← Int.natCast_add]
    exact wr64 (by omega)
theorem mu_below (M x B i j : Nat) (h : j < i) : dg (M + x * 4294967296 ^ i * B) j = dg M j := by
  rw [dg_lw, dg_lw]
  unfold lw
  obtain ⟨t, rfl⟩ : ∃ t, i = j + 1 + t := ⟨i - (j + 1), by omega⟩
  rw [Nat.pow_add, show M + x * (4294967296 ^ (j + 1) * 4294967296 ^ t) * B = M + 4294967296 ^ (j + 1) * (x * 4294967296 ^ t * B) by
    congr 1
    rw [← Nat.mul_assoc, Nat.mul_comm x, Nat.mul_assoc (4294967296 ^ (j + 1)), Nat.mul_assoc (4294967296 ^ (j + 1))], Nat.add_mul_mod_self_left]
theorem mu_zero (M x B i : Nat) : mCy M x B i 0 = 0 := by
  unfold mCy
  rw [lw_zero, Nat.mul_zero, Nat.add_zero, Nat.add_zero]
  exact Nat.div_eq_of_lt (lw_lt M i)
/-- the row within a round -/
def mrF (M M' i n : Nat) : Nat → Nat → L := fun j _ => .v (.int .u32 (if i ≤ j ∧ j < n then ((dg M' j : Nat) : Int) else ((dg M j : Nat) : Int)))
theorem ig_mul (x y : Int) : igA ((decide (x < 0) != decide (y < 0)) && decide (0 < wl (x.natAbs * y.natAbs))) (x.natAbs * y.natAbs) = igI (x * y) := by
  unfold igI
  rw [Int.natAbs_mul]
  congr 1
  by_cases hx : x = 0
  · subst hx; simp [wl_zero]
  · by_cases hy : y = 0
    · subst hy; simp [wl_zero]
    · have h1 : 0 < x.natAbs * y.natAbs := Nat.mul_pos (by omega) (by omega)
      have h2 := wl_pos.2 h1
      by_cases h3 : x < 0 <;> by_cases h4 : y < 0
      · have := Int.mul_pos_of_neg_of_neg h3 h4
        simp [h2, h3, h4]; omega
      · have := Int.mul_neg_of_neg_of_pos h3 (show 0 < y by omega)
        simp [h2, h3, h4]; omega
      · have := Int.mul_neg_of_pos_of_neg (show 0 < x by omega) h4
        simp [h2, h3, h4]; omega
      · have := Int.mul_pos (show 0 < x by omega) (show 0 < y by omega)
        simp [h2, h3, h4]; omega
set_option maxHeartbeats 8000000 in
theorem lgMul (x y : Int) (hx : wl x.natAbs ≤ 400) (hy : wl y.natAbs ≤ 400) : Fn1 Tryd.prog 78 [.agg (igI x), .agg (igI y)] (.agg (igI (x * y))) := by
  refine fn_of_wpx (O := lex) tab_ok gamLg_ok mixed Tryd.func78 (by kernel_rfl) rfl rfl rfl (by simp [Tryd.ntmps78]) (by kernel_rfl) ?_
  rw [← ig_mul]
  unfold igI igA
  generalize hA : x.natAbs = A at *
  generalize hB : y.natAbs = B at *
  generalize decide (x < 0) = m at *
  generalize decide (y < 0) = m' at *
  have e1 : IntKind.i64.wrap (((wl A : Nat) : Int) + ((wl B : Nat) : Int)) = ((wl A + wl B : Nat) : Int) := (wr_id (by omega) (by omega)).trans (by omega)
  conv => whnf
  repeat' (first
    | (refine NilG.mk fun bn hbn hbx => ?_; conv => whnf)
    | (refine Both.mk ?_ ?_ <;> conv => whnf)
    | ((first | (refine MkG.box 1 rfl rfl rfl (by decide) ?_) | (refine MkG.box 2 rfl rfl rfl (by decide) ?_) | (refine MkG.box 3 rfl rfl rfl (by decide) ?_) | (refine MkG.row ?_)); conv => whnf)
    | (refine LitG.row ?_; conv => whnf)
    | exact trivial
    | (refine Br.mk (fun hb => ?_) (fun hb => ?_) <;> (first | (exfalso; revert hb; decide) | ((try simp only [BL] at hb) <;> (try simp only [DL] at hb) <;> (first | (exfalso; omega) | (conv => whnf)))))
    | (refine And.intro ?_ ?_; (focus (first | exact id | exact rfl | exact trivial | (intro hg; first | exact hg | exact rfl | (simp; done) | (simp at hg ⊢; assumption)) | omega | decide | exact is2_c _ _ _ | exact is1_c _ _ | exact isS_c _ _ | exact isB_c _ _ | exact Nat.le_refl _ | assumption | exact mulLe (by decide) (by omega) | exact mulLe2 (by decide) (by omega) (by omega) | (intros; simp only [BL] at *; omega) | (intros; (try simp only [BL] at *); (try simp only [DL] at *); omega) | (intros; simp only [BL] at *; rw [wr_id (by omega) (by omega)]; omega) | (intro h1 h2; exact Bool.and_eq_true_iff.2 ⟨h1, h2⟩) | (intros; simp_all; done))); conv => whnf)
    | (refine Or.inr (And.intro rfl ?_); first | (refine congrArg intV ?_) | (refine congrArg boolV ?_) | (refine tupII ?_ ?_) | (refine tupIII ?_ ?_ ?_) | (refine tupU ?_ ?_ ?_ ?_ ?_) | exact rfl))
  rw [e1]
  conv => whnf
  repeat' (first
    | (refine NilG.mk fun bn hbn hbx => ?_; conv => whnf)
    | (refine Both.mk ?_ ?_ <;> conv => whnf)
    | ((first | (refine MkG.box 1 rfl rfl rfl (by decide) ?_) | (refine MkG.box 2 rfl rfl rfl (by decide) ?_) | (refine MkG.box 3 rfl rfl rfl (by decide) ?_) | (refine MkG.row ?_)); conv => whnf)
    | (refine LitG.row ?_; conv => whnf)
    | exact trivial
    | (refine Br.mk (fun hb => ?_) (fun hb => ?_) <;> (first | (exfalso; revert hb; decide) | ((try simp only [BL] at hb) <;> (try simp only [DL] at hb) <;> (first | (exfalso; omega) | (conv => whnf)))))
    | (refine And.intro ?_ ?_; (focus (first | exact id | exact rfl | exact trivial | (intro hg; first | exact hg | exact rfl | (simp; done) | (simp at hg ⊢; assumption)) | omega | decide | exact is2_c _ _ _ | exact is1_c _ _ | exact isS_c _ _ | exact isB_c _ _ | exact Nat.le_refl _ | assumption | exact mulLe (by decide) (by omega) | exact mulLe2 (by decide) (by omega) (by omega) | (intros; simp only [BL] at *; omega) | (intros; (try simp only [BL] at *); (try simp only [DL] at *); omega) | (intros; simp only [BL] at *; rw [wr_id (by omega) (by omega)]; omega) | (intro h1 h2; exact Bool.and_eq_true_iff.2 ⟨h1, h2⟩) | (intros; simp_all; done))); conv => whnf)
    | (refine Or.inr (And.intro rfl ?_); first | (refine congrArg intV ?_) | (refine congrArg boolV ?_) | (refine tupII ?_ ?_) | (refine tupIII ?_ ?_ ?_) | (refine tupU ?_ ?_ ?_ ?_ ?_) | exact rfl))
  refine sem_loop tab_ok gamLg_ok mixed (by kernel_rfl) (O := lex) (fun i : Nat => ⟨[(2, .lp 0 0), (3, .lp 1 0), (4, .lp 2 0), (5, .own 3), (20, wdN A), (21, intV (wl A)), (22, intV i)], [.box [boolV m, wdN A], .box [boolV m', wdN B], .box [boolV false, .c (.v (.slice none 0 0))], .row 137 1 (wl A + wl B) false (cW (lw A i * B))]⟩) (fun i => i ≤ wl A) (fun i => wl A - i) ⟨0, [?_, ?_, ?_, ?_], Nat.zero_le _, ?_⟩ fun i hi => ?_
  rotate_left 4
  · refine Sub.of ?_ ?_ ?_
    repeat' (first | (refine And.intro ?_ ?_) | exact trivial | exact fun _ _ _ => hsc _ _ | (exact congrArg intV (by first | with_reducible rfl | with_reducible assumption)) | exact (rfl : AV.idsLt _ _ = true) | exact (rfl : _ = AV.ren _ (.own _)) | exact (rfl : _ = AV.ren _ (.fn _ _)) | exact (rfl : _ = AV.ren _ (.gh _)) | (exact congrArg intV (by assumption)) | (refine congrArg intV ((wr_id (by omega) (by omega)).trans (by omega))) | exact rfl | (simp only [NLc]; first | exact rfl | done) | exact all0 | exact fun h => Bool.noConfusion h | exact fun _ _ _ _ => rfl | omega)
    intro a ha b hb
    have hb : b < 1 := hb
    obtain rfl : b = 0 := by omega
    show L.v (Value.int .u32 0) = L.v (Value.int .u32 ((dg (lw A 0 * B) a : Nat) : Int))
    rw [lw_zero, Nat.zero_mul]
    unfold dg
    rw [Nat.zero_div]
    rfl
  conv => whnf
  repeat' (first
    | (refine NilG.mk fun bn hbn hbx => ?_; conv => whnf)
    | (refine Both.mk ?_ ?_ <;> conv => whnf)
    | ((first | (refine MkG.box 1 rfl rfl rfl (by decide) ?_) | (refine MkG.box 2 rfl rfl rfl (by decide) ?_) | (refine MkG.box 3 rfl rfl rfl (by decide) ?_) | (refine MkG.row ?_)); conv => whnf)
    | (refine LitG.row ?_; conv => whnf)
    | exact trivial
    | (refine Br.mk (fun hb => ?_) (fun hb => ?_) <;> (first | (exfalso; revert hb; decide) | ((try simp only [BL] at hb) <;> (try simp only [DL] at hb) <;> (first | (exfalso; omega) | (conv => whnf)))))
    | (refine And.intro ?_ ?_; (focus (first | exact id | exact rfl | exact trivial | (intro hg; first | exact hg | exact rfl | (simp; done) | (simp at hg ⊢; assumption)) | omega | decide | exact is2_c _ _ _ | exact is1_c _ _ | exact isS_c _ _ | exact isB_c _ _ | exact Nat.le_refl _ | assumption | exact mulLe (by decide) (by omega) | exact mulLe2 (by decide) (by omega) (by omega) | (intros; simp only [BL] at *; omega) | (intros; (try simp only [BL] at *); (try simp only [DL] at *); omega) | (intros; simp only [BL] at *; rw [wr_id (by omega) (by omega)]; omega) | (intro h1 h2; exact Bool.and_eq_true_iff.2 ⟨h1, h2⟩) | (intros; simp_all; done))); conv => whnf)
    | (refine Or.inr (And.intro rfl ?_); first | (refine congrArg intV ?_) | (refine congrArg boolV ?_) | (refine tupII ?_ ?_) | (refine tupIII ?_ ?_ ?_) | (refine tupU ?_ ?_ ?_ ?_ ?_) | exact rfl))
  · have hMs : lw A (i + 1) * B = lw A i * B + dg A i * 4294967296 ^ i * B := by rw [lw_succ, Nat.add_mul]
    have hM'lt : lw A (i + 1) * B < 4294967296 ^ (i + wl B + 1) := by
      rw [show i + wl B + 1 = i + 1 + wl B by omega, Nat.pow_add]
      exact Nat.mul_lt_mul'' (lw_lt A (i + 1)) wl_lt
    have hMlt : lw A i * B < 4294967296 ^ (i + wl B) := by
      rw [Nat.pow_add]
      by_cases hB0 : B = 0
      · subst hB0
        rw [Nat.mul_zero]
        exact Nat.mul_pos (pw_pos _) (pw_pos _)
      · exact Nat.mul_lt_mul'' (lw_lt A i) wl_lt
    have hcl : (lw A i * B + dg A i * 4294967296 ^ i * B) / 4294967296 ^ (i + wl B) = mCy (lw A i * B) (dg A i) B i (wl B) := by
      unfold mCy
      rw [lw_all hMlt, lw_all wl_lt]
    have hx := dg_lt A i
    have hz := mu_zero (lw A i * B) (dg A i) B i
    have hst := fun k => mu_step (lw A i * B) (dg A i) B i k hx
    have hcy := fun k => mu_lt (lw A i * B) (dg A i) B i k hx
    have hbl := fun j h => mu_below (lw A i * B) (dg A i) B i j h
    rw [← hMs] at hcl
    simp only [← hMs] at hst hbl
    generalize hMM : lw A i * B = M at *
    generalize hMM' : lw A (i + 1) * B = M' at *
    generalize hX : dg A i = x0 at *
    have e2 : (0 : Int) = ((mCy M x0 B i 0 : Nat) : Int) := by rw [hz]; rfl
    refine sem_loop tab_ok gamLg_ok mixed (by kernel_rfl) (O := lex) (fun k : Nat => ⟨[(2, .lp 0 0), (3, .lp 1 0), (4, .lp 2 0), (5, .own 3), (6, intV i), (7, u32V ((x0 : Nat) : Int)), (8, u64V ((mCy M x0 B i k : Nat) : Int)), (20, wdN A), (21, intV (wl A)), (22, intV i), (28, wdN B), (29, intV (wl B)), (30, intV k)], [.box [boolV m, wdN A], .box [boolV m', wdN B], .box [boolV false, .c (.v (.slice none 0 0))], .row 137 1 (wl A + wl B) false (mrF M M' i (i + k))]⟩) (fun k => k ≤ wl B) (fun k => wl B - k) ⟨0, [?_, ?_, ?_, ?_], Nat.zero_le _, ?_⟩ fun k hk => ?_
    rotate_left 4
    · refine Sub.of ?_ ?_ ?_
      repeat' (first | (refine And.intro ?_ ?_) | exact trivial | exact fun _ _ _ => hsc _ _ | (exact congrArg intV (by first | with_reducible rfl | with_reducible assumption)) | exact (rfl : AV.idsLt _ _ = true) | exact (rfl : _ = AV.ren _ (.own _)) | exact (rfl : _ = AV.ren _ (.fn _ _)) | exact (rfl : _ = AV.ren _ (.gh _)) | (exact congrArg intV (by assumption)) | (refine congrArg intV ((wr_id (by omega) (by omega)).trans (by omega))) | exact rfl | (simp only [NLc]; first | exact rfl | done) | exact all0 | exact fun h => Bool.noConfusion h | exact fun _ _ _ _ => rfl | omega)
      · exact congrArg (fun n : Nat => u32V ((n : Nat) : Int)) hX
      · exact (congrArg (fun z : Int => u64V z) e2 : _)
      · intro a ha b hb
        obtain rfl : b = 0 := by omega
        show L.v (Value.int .u32 ((dg M a : Nat) : Int)) = L.v (Value.int .u32 (if i ≤ a ∧ a < i + 0 then _ else _))
        rw [if_neg (by omega)]
    have e3 : IntKind.i64.wrap (((i : Nat) : Int) + ((k : Nat) : Int)) = ((i + k : Nat) : Int) := (wr_id (by omega) (by omega)).trans (by omega)
    have e4 : IntKind.i64.wrap (((i : Nat) : Int) + ((wl B : Nat) : Int)) = ((i + wl B : Nat) : Int) := (wr_id (by omega) (by omega)).trans (by omega)
    have hi' : i < wl A := by omega
    obtain ⟨w1, w2, w3, w4, w5, w6, w7, w8⟩ := mu_w (hcy k) (dg_lt M (i + k)) hx (dg_lt B k) (hst k).1 (hst k).2
    have hmr : (if i ≤ i + k ∧ i + k < i + k then ((dg M' (i + k) : Nat) : Int) else ((dg M (i + k) : Nat) : Int)) = ((dg M (i + k) : Nat) : Int) := if_neg (by omega)
    have w9 : IntKind.u32.wrap ((mCy M x0 B i k : Nat) : Int) = ((mCy M x0 B i k : Nat) : Int) := wr32_id (hcy k)
    clear hst hcy
    conv => whnf
    repeat' (first
      | (refine NilG.mk fun bn hbn hbx => ?_; conv => whnf)
      | (refine Both.mk ?_ ?_ <;> conv => whnf)
      | ((first | (refine MkG.box 1 rfl rfl rfl (by decide) ?_) | (refine MkG.box 2 rfl rfl rfl (by decide) ?_) | (refine MkG.box 3 rfl rfl rfl (by decide) ?_) | (refine MkG.row ?_)); conv => whnf)
      | (refine LitG.row ?_; conv => whnf)
      | exact trivial
      | (refine Br.mk (fun hb => ?_) (fun hb => ?_) <;> (first | (exfalso; revert hb; decide) | ((try simp only [BL] at hb) <;> (try simp only [DL] at hb) <;> (first | (exfalso; omega) | (conv => whnf)))))
      | (refine And.intro ?_ ?_; (focus (first | exact id | exact rfl | exact trivial | (intro hg; first | exact hg | exact rfl | (simp; done) | (simp at hg ⊢; assumption)) | omega | decide | exact is2_c _ _ _ | exact is1_c _ _ | exact isS_c _ _ | exact isB_c _ _ | exact Nat.le_refl _ | assumption | exact mulLe (by decide) (by omega) | exact mulLe2 (by decide) (by omega) (by omega) | (intros; simp only [BL] at *; omega) | (intros; (try simp only [BL] at *); (try simp only [DL] at *); omega) | (intros; simp only [BL] at *; rw [wr_id (by omega) (by omega)]; omega) | (intro h1 h2; exact Bool.and_eq_true_iff.2 ⟨h1, h2⟩) | (intros; simp_all; done))); conv => whnf)
      | (refine Or.inr (And.intro rfl ?_); first | (refine congrArg intV ?_) | (refine congrArg boolV ?_) | (refine tupII ?_ ?_) | (refine tupIII ?_ ?_ ?_) | (refine tupU ?_ ?_ ?_ ?_ ?_) | exact rfl))
    · simp only [e3, Int.toNat_natCast, hmr, w1, w2, w3, w4, w5, w6, w7, w8]
      refine ⟨k + 1, [?_, ?_, ?_, ?_], by omega, by omega, ?_⟩
      rotate_left 4
      refine Sub.of ?_ ?_ ?_
      repeat' (first | (refine And.intro ?_ ?_) | exact trivial | exact fun _ _ _ => hsc _ _ | (exact congrArg intV (by first | with_reducible rfl | with_reducible assumption)) | exact (rfl : AV.idsLt _ _ = true) | exact (rfl : _ = AV.ren _ (.own _)) | exact (rfl : _ = AV.ren _ (.fn _ _)) | exact (rfl : _ = AV.ren _ (.gh _)) | (exact congrArg intV (by assumption)) | (refine congrArg intV ((wr_id (by omega) (by omega)).trans (by omega))) | exact rfl | (simp only [NLc]; first | exact rfl | done) | exact all0 | exact fun h => Bool.noConfusion h | exact fun _ _ _ _ => rfl | omega)
      refine row_set1 ?_ fun a ha hne => ?_
      · show _ = L.v (Value.int .u32 (if i ≤ i + k ∧ i + k < i + (k + 1) then _ else _))
        rw [if_pos (by omega)]
      · show L.v (Value.int .u32 (if i ≤ a ∧ a < i + k then _ else _)) = L.v (Value.int .u32 (if i ≤ a ∧ a < i + (k + 1) then _ else _))
        by_cases h : i ≤ a ∧ a < i + k
        · rw [if_pos h, if_pos (by omega)]
        · rw [if_neg h, if_neg (by omega)]
    · simp only [e4, Int.toNat_natCast, w9]
      obtain rfl : k = wl B := by omega
      refine ⟨i + 1, [?_, ?_, ?_, ?_], by omega, by omega, ?_⟩
      rotate_left 4
      refine Sub.of ?_ ?_ ?_
      repeat' (first | (refine And.intro ?_ ?_) | exact trivial | exact fun _ _ _ => hsc _ _ | (exact congrArg intV (by first | with_reducible rfl | with_reducible assumption)) | exact (rfl : AV.idsLt _ _ = true) | exact (rfl : _ = AV.ren _ (.own _)) | exact (rfl : _ = AV.ren _ (.fn _ _)) | exact (rfl : _ = AV.ren _ (.gh _)) | (exact congrArg intV (by assumption)) | (refine congrArg intV ((wr_id (by omega) (by omega)).trans (by omega))) | exact rfl | (simp only [NLc]; first | exact rfl | done) | exact all0 | exact fun h => Bool.noConfusion h | exact fun _ _ _ _ => rfl | omega)
      rw [hMM']
      refine row_set1 ?_ fun a ha hne => ?_
      · show _ = L.v (Value.int .u32 ((dg M' (i + wl B) : Nat) : Int))
        rw [dg_div M' (i + wl B) hM'lt, hcl]
      · show L.v (Value.int .u32 (if i ≤ a ∧ a < i + wl B then _ else _)) = L.v (Value.int .u32 ((dg M' a : Nat) : Int))
        by_cases h : i ≤ a ∧ a < i + wl B
        · rw [if_pos h]
        · rw [if_neg h]
          by_cases h2 : a < i
          · rw [hbl a h2]
          · rw [dg_hi (Nat.lt_of_lt_of_le hMlt (pw_mono (by omega))), dg_hi (Nat.lt_of_lt_of_le hM'lt (pw_mono (by omega)))]
  · obtain rfl : i = wl A := by omega
    rw [lw_all wl_lt]
    refine CallC.mk (Fn.mono (lgNorm (m != m') (wl A + wl B) (A * B) (by rw [Nat.pow_add]; exact Nat.mul_lt_mul'' wl_lt wl_lt) (by omega)) ?_)
    rintro obs r ⟨rfl, rfl⟩
    unfold igA
    conv => whnf
    repeat' (first
      | (refine NilG.mk fun bn hbn hbx => ?_; conv => whnf)
      | (refine Both.mk ?_ ?_ <;> conv => whnf)
      | ((first | (refine MkG.box 1 rfl rfl rfl (by decide) ?_) | (refine MkG.box 2 rfl rfl rfl (by decide) ?_) | (refine MkG.box 3 rfl rfl rfl (by decide) ?_) | (refine MkG.row ?_)); conv => whnf)
      | (refine LitG.row ?_; conv => whnf)
      | exact trivial
      | (refine Br.mk (fun hb => ?_) (fun hb => ?_) <;> (first | (exfalso; revert hb; decide) | ((try simp only [BL] at hb) <;> (try simp only [DL] at hb) <;> (first | (exfalso; omega) | (conv => whnf)))))
      | (refine And.intro ?_ ?_; (focus (first | exact id | exact rfl | exact trivial | (intro hg; first | exact hg | exact rfl | (simp; done) | (simp at hg ⊢; assumption)) | omega | decide | exact is2_c _ _ _ | exact is1_c _ _ | exact isS_c _ _ | exact isB_c _ _ | exact Nat.le_refl _ | assumption | exact mulLe (by decide) (by omega) | exact mulLe2 (by decide) (by omega) (by omega) | (intros; simp only [BL] at *; omega) | (intros; (try simp only [BL] at *); (try simp only [DL] at *); omega) | (intros; simp only [BL] at *; rw [wr_id (by omega) (by omega)]; omega) | (intro h1 h2; exact Bool.and_eq_true_iff.2 ⟨h1, h2⟩) | (intros; simp_all; done))); conv => whnf)
      | (refine Or.inr (And.intro rfl ?_); first | (refine congrArg intV ?_) | (refine congrArg boolV ?_) | (refine tupII ?_ ?_) | (refine tupIII ?_ ?_ ?_) | (refine tupU ?_ ?_ ?_ ?_ ?_) | exact rfl))
end Go.Proofs.YtjfnhehjhicnoaaDoor
