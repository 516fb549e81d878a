/-
  Large numbers: subWords; Add.
-/
import Derived.Test.YtjfnhehjhicnoaaDoorLgC
namespace Go.Proofs.YtjfnhehjhicnoaaDoor
open Go.RowKit

/-- what is borrowed from word i on -/
def sBw (A B i : Nat) : Nat := if lw A i < lw B i then 1 else 0
def suF (A B i : Nat) : Nat → Nat → L := fun k _ => .v (.int .u32 (if k < i then ((dg (A - B) k : Nat) : Int) else 0))
theorem su_low {A B : Nat} (h : B ≤ A) (i : Nat) : (lw (A - B) i : Int) = (lw A i : Int) - lw B i + (sBw A B i : Int) * (4294967296 ^ i : Nat) := by
  have hp := pw_pos i
  have h1 := lw_lt A i
  have h2 := lw_lt B i
  have h3 : ((lw (A - B) i : Nat) : Int) = ((lw A i : Int) - lw B i) % ((4294967296 ^ i : Nat) : Int) := by
    unfold lw
    rw [Int.natCast_emod, Int.ofNat_sub h, Int.sub_emod, Int.natCast_emod, Int.natCast_emod]
  rw [h3]
  unfold sBw
  split
  · rename_i hl
    rw [← Int.add_emod_right, Int.emod_eq_of_lt (by omega) (by omega)]
    omega
  · rw [Int.emod_eq_of_lt (by omega) (by omega)]
    omega
theorem su_step {A B : Nat} (h : B ≤ A) (i : Nat) : (dg A i : Int) - sBw A B i - dg B i = (dg (A - B) i : Int) - (sBw A B (i + 1) : Int) * 4294967296 := by
  have hp := pw_pos i
  have h1 := su_low h i
  have h2 := su_low h (i + 1)
  rw [lw_succ, lw_succ, lw_succ, pw_succ] at h2
  generalize 4294967296 ^ i = P at *
  generalize dg (A - B) i = x at *
  generalize dg A i = a at *
  generalize dg B i = b at *
  generalize sBw A B i = p at *
  generalize sBw A B (i + 1) = q at *
  have h3 : ((x : Int) - ((a : Int) - p - b + (q : Int) * 4294967296)) * (P : Int) = 0 := by
    simp only [Int.natCast_add, Int.natCast_mul] at h2
    rw [h1] at h2
    have e1 : ((4294967296 : Nat) : Int) = 4294967296 := rfl
    rw [e1] at h2
    simp only [Int.sub_mul, Int.add_mul]
    have e2 : (q : Int) * ((P : Int) * 4294967296) = (q : Int) * 4294967296 * P := by rw [Int.mul_comm (P : Int), Int.mul_assoc]
    rw [e2] at h2
    omega
  rcases Int.mul_eq_zero.1 h3 with h4 | h4
  · omega
  · omega
theorem sBw_le (A B i : Nat) : sBw A B i ≤ 1 := by
  unfold sBw
  split <;> omega
theorem su_w {a b x p q : Nat} (ha : a < 4294967296) (hb : b < 4294967296) (hx : x < 4294967296) (hp : p ≤ 1) (hq : q ≤ 1) (hs : (a : Int) - p - b = (x : Int) - (q : Int) * 4294967296) :
    IntKind.i64.wrap ((a : Nat) : Int) = ((a : Nat) : Int) ∧ IntKind.i64.wrap ((b : Nat) : Int) = ((b : Nat) : Int) ∧ IntKind.i64.wrap (-((p : Nat) : Int) + ((a : Nat) : Int)) = ((a : Nat) : Int) - ((p : Nat) : Int) ∧
    IntKind.i64.wrap (((a : Nat) : Int) - ((p : Nat) : Int) - ((b : Nat) : Int)) = (x : Int) - (q : Int) * 4294967296 ∧ IntKind.u32.wrap ((x : Int) - (q : Int) * 4294967296) = ((x : Nat) : Int) ∧
    shrI .i64 ((x : Int) - (q : Int) * 4294967296) 32 = -((q : Nat) : Int) := by
  refine ⟨wr_id (by omega) (by omega), wr_id (by omega) (by omega), (wr_id (by omega) (by omega)).trans (by omega), (wr_id (by omega) (by omega)).trans hs, ?_, ?_⟩
  · rw [IntKind.wrap_u32]
    omega
  · show Int.fdiv _ (2 ^ 32) = _
    rw [Int.fdiv_eq_ediv_of_nonneg _ (by decide), show ((2 : Int) ^ 32) = 4294967296 by decide]
    omega
set_option maxHeartbeats 4000000 in
theorem lgSubW0 (A B : Nat) (hA : wl A ≤ 1000) (hAB : B ≤ A) : Fn Tryd.prog 109 [wdN A, wdN B] (wdK (wl A) (A - B)) := by
  refine fn_of_wpx (O := lex) tab_ok (Γ := fun _ => none) (fun _ _ h => by cases h) mixed Tryd.func109 (by kernel_rfl) rfl rfl rfl (by simp [Tryd.ntmps109]) (by kernel_rfl) ?_
  have hle := wl_mono hAB
  have e2 : (0 : Int) = -((sBw A B 0 : Nat) : Int) := by simp [sBw, lw_zero]
  conv => whnf
  repeat' (first
    | (refine NilG.mk fun bn hbn hbx => ?_; conv => whnf)
    | (refine Both.mk ?_ ?_ <;> conv => whnf)
    | ((first | (refine MkG.box 1 rfl rfl rfl (by decide) ?_) | (refine MkG.box 2 rfl rfl rfl (by decide) ?_) | (refine MkG.box 3 rfl rfl rfl (by decide) ?_) | (refine MkG.row ?_)); conv => whnf)
    | (refine LitG.row ?_; conv => whnf)
    | exact trivial
    | (refine Br.mk (fun hb => ?_) (fun hb => ?_) <;> (first | (exfalso; revert hb; decide) | ((try simp only [BL] at hb) <;> (try simp only [DL] at hb) <;> (first | (exfalso; omega) | (conv => whnf)))))
    | (refine And.intro ?_ ?_; (focus (first | exact id | exact rfl | exact trivial | (intro hg; first | exact hg | exact rfl | (simp; done) | (simp at hg ⊢; assumption)) | omega | decide | exact is2_c _ _ _ | exact is1_c _ _ | exact isS_c _ _ | exact isB_c _ _ | exact Nat.le_refl _ | assumption | exact mulLe (by decide) (by omega) | exact mulLe2 (by decide) (by omega) (by omega) | (intros; simp only [BL] at *; omega) | (intros; (try simp only [BL] at *); (try simp only [DL] at *); omega) | (intros; simp only [BL] at *; rw [wr_id (by omega) (by omega)]; omega) | (intro h1 h2; exact Bool.and_eq_true_iff.2 ⟨h1, h2⟩) | (intros; simp_all; done))); conv => whnf)
    | (refine Or.inr (And.intro rfl ?_); first | (refine congrArg intV ?_) | (refine congrArg boolV ?_) | (refine tupII ?_ ?_) | (refine tupIII ?_ ?_ ?_) | (refine tupU ?_ ?_ ?_ ?_ ?_) | exact rfl))
  refine sem_loop tab_ok gamN1_ok mixed (by kernel_rfl) (O := lex) (fun i : Nat => ⟨[(0, wdN A), (1, wdN B), (5, .own 0), (6, intV (-((sBw A B i : Nat) : Int))), (12, intV (wl A)), (13, intV i)], [.row 137 1 (wl A) false (suF A B i)]⟩) (fun i => i ≤ wl A) (fun i => wl A - i) ⟨0, [?_], Nat.zero_le _, ?_⟩ fun i hi => ?_
  rotate_left 1
  · refine Sub.of ?_ ?_ ?_
    repeat' (first | (refine And.intro ?_ ?_) | exact trivial | exact fun _ _ _ => hsc _ _ | (exact congrArg intV (by first | with_reducible rfl | with_reducible assumption)) | exact (rfl : AV.idsLt _ _ = true) | exact (rfl : _ = AV.ren _ (.own _)) | exact (rfl : _ = AV.ren _ (.fn _ _)) | exact (rfl : _ = AV.ren _ (.gh _)) | (exact congrArg intV (by assumption)) | (refine congrArg intV ((wr_id (by omega) (by omega)).trans (by omega))) | exact rfl | (simp only [NLc]; first | exact rfl | done) | exact all0 | exact fun h => Bool.noConfusion h | exact fun _ _ _ _ => rfl | omega)
    intro a ha b hb
    have hb : b < 1 := hb
    obtain rfl : b = 0 := by omega
    show L.v (Value.int .u32 0) = L.v (Value.int .u32 (if a < 0 then _ else 0))
    rw [if_neg (by omega)]
  have hs := su_step hAB i
  obtain ⟨w1, w2, w3, w4, w5, w6⟩ := su_w (dg_lt A i) (dg_lt B i) (dg_lt (A - B) i) (sBw_le A B i) (sBw_le A B (i + 1)) hs
  have hrow : ∀ a, a < wl A → a ≠ i → suF A B i a 0 = suF A B (i + 1) a 0 := fun a ha hne => by
    show L.v (Value.int .u32 (if a < i then _ else 0)) = L.v (Value.int .u32 (if a < i + 1 then _ else 0))
    by_cases h : a < i
    · rw [if_pos h, if_pos (by omega)]
    · rw [if_neg h, if_neg (by omega)]
  have hnew : L.v (Value.int .u32 ((dg (A - B) i : Nat) : Int)) = suF A B (i + 1) i 0 := by
    show _ = L.v (Value.int .u32 (if i < i + 1 then _ else 0))
    rw [if_pos (by omega)]
  conv => whnf
  repeat' (first
    | (refine NilG.mk fun bn hbn hbx => ?_; conv => whnf)
    | (refine Both.mk ?_ ?_ <;> conv => whnf)
    | ((first | (refine MkG.box 1 rfl rfl rfl (by decide) ?_) | (refine MkG.box 2 rfl rfl rfl (by decide) ?_) | (refine MkG.box 3 rfl rfl rfl (by decide) ?_) | (refine MkG.row ?_)); conv => whnf)
    | (refine LitG.row ?_; conv => whnf)
    | exact trivial
    | (refine Br.mk (fun hb => ?_) (fun hb => ?_) <;> (first | (exfalso; revert hb; decide) | ((try simp only [BL] at hb) <;> (try simp only [DL] at hb) <;> (first | (exfalso; omega) | (conv => whnf)))))
    | (refine And.intro ?_ ?_; (focus (first | exact id | exact rfl | exact trivial | (intro hg; first | exact hg | exact rfl | (simp; done) | (simp at hg ⊢; assumption)) | omega | decide | exact is2_c _ _ _ | exact is1_c _ _ | exact isS_c _ _ | exact isB_c _ _ | exact Nat.le_refl _ | assumption | exact mulLe (by decide) (by omega) | exact mulLe2 (by decide) (by omega) (by omega) | (intros; simp only [BL] at *; omega) | (intros; (try simp only [BL] at *); (try simp only [DL] at *); omega) | (intros; simp only [BL] at *; rw [wr_id (by omega) (by omega)]; omega) | (intro h1 h2; exact Bool.and_eq_true_iff.2 ⟨h1, h2⟩) | (intros; simp_all; done))); conv => whnf)
    | (refine Or.inr (And.intro rfl ?_); first | (refine congrArg intV ?_) | (refine congrArg boolV ?_) | (refine tupII ?_ ?_) | (refine tupIII ?_ ?_ ?_) | (refine tupU ?_ ?_ ?_ ?_ ?_) | exact rfl))
  · simp only [Int.toNat_natCast, w1, w2, w3, w4, w5, w6]
    refine ⟨i + 1, [?_], by omega, by omega, ?_⟩
    rotate_left 1
    refine Sub.of ?_ ?_ ?_
    repeat' (first | (refine And.intro ?_ ?_) | exact trivial | exact fun _ _ _ => hsc _ _ | (exact congrArg intV (by first | with_reducible rfl | with_reducible assumption)) | exact (rfl : AV.idsLt _ _ = true) | exact (rfl : _ = AV.ren _ (.own _)) | exact (rfl : _ = AV.ren _ (.fn _ _)) | exact (rfl : _ = AV.ren _ (.gh _)) | (exact congrArg intV (by assumption)) | (refine congrArg intV ((wr_id (by omega) (by omega)).trans (by omega))) | exact rfl | (simp only [NLc]; first | exact rfl | done) | exact all0 | exact fun h => Bool.noConfusion h | exact fun _ _ _ _ => rfl | omega)
    exact row_set1 hnew hrow
  · have hz : dg B i = 0 := dg_hi (wl_le.1 (by omega))
    have hz' : (((dg A i : Nat) : Int) - ((sBw A B i : Nat) : Int)) = (dg (A - B) i : Int) - (sBw A B (i + 1) : Int) * 4294967296 := by
      rw [← hs, hz]
      exact (Int.sub_zero _).symm
    rw [hz'] at w3
    simp only [Int.toNat_natCast, w1, w3, w5, w6]
    refine ⟨i + 1, [?_], by omega, by omega, ?_⟩
    rotate_left 1
    refine Sub.of ?_ ?_ ?_
    repeat' (first | (refine And.intro ?_ ?_) | exact trivial | exact fun _ _ _ => hsc _ _ | (exact congrArg intV (by first | with_reducible rfl | with_reducible assumption)) | exact (rfl : AV.idsLt _ _ = true) | exact (rfl : _ = AV.ren _ (.own _)) | exact (rfl : _ = AV.ren _ (.fn _ _)) | exact (rfl : _ = AV.ren _ (.gh _)) | (exact congrArg intV (by assumption)) | (refine congrArg intV ((wr_id (by omega) (by omega)).trans (by omega))) | exact rfl | (simp only [NLc]; first | exact rfl | done) | exact all0 | exact fun h => Bool.noConfusion h | exact fun _ _ _ _ => rfl | omega)
    exact row_set1 hnew hrow
  · obtain rfl : i = wl A := by omega
    refine .inr ⟨rfl, _, rfl, fun a ha b hb => ?_⟩
    show L.v (Value.int .u32 (if a < wl A then _ else 0)) = L.v (Value.int .u32 _)
    rw [if_pos ha]
theorem lgSubW (A B : Nat) (hA : wl A ≤ 1000) (hAB : B ≤ A) : Fn1 Tryd.prog 109 [wdN A, wdN B] (wdV (wl A) (A - B)) := wdK_fn (lgSubW0 A B hA hAB)
end Go.Proofs.YtjfnhehjhicnoaaDoor
