/-
  Convex functions: least values, conjugates.
-/
import Derived.Test.YtkkkldhilofgmaaCvxV
namespace Go.Proofs.Ytkkkldhilofgmaa
open Go.RowKit

theorem SP1_eq {p q : Nat → Int} {t : Int} {n i : Nat} (hq : ∀ i j, i < j → j < n → q i < q j) (hi : i ≤ n) (h1 : ∀ k, k < i → q k < t) (h2 : i < n → t ≤ q i) : S (SP1 p q t) n = S p i := by
  obtain ⟨j, a1, a2, a3, a4⟩ := SP1_at (p := p) (q := q) (t := t) hq
  rw [a4]
  have : j = i := by
    rcases Nat.lt_trichotomy j i with h | h | h
    · have := h1 j h; have := a3 j (Nat.le_refl _) (by omega); omega
    · exact h
    · have := a2 i h; have := h2 (by omega); omega
  rw [this]

theorem cxlow (lo v : Int) (n : Nat) (p q : Nat → Int) (t : Int) (h : okCx lo v n p q) : Fn1 Try.prog 108 [cxV lo v n p q, intV t] (intV (lo + S (SP1 p q t) n)) := by
  refine fn_of_wpx (O := lex) tab_ok gamX1_ok mixed Try.func108 (by kernel_rfl) rfl rfl rfl (by simp [Try.ntmps108]) (by kernel_rfl) ?_
  have hn := h.1
  have hb1 := h.2
  conv => whnf
  repeat' (first
    | (refine NilG.mk fun bn hbn hbx => ?_; conv => whnf)
    | (refine Both.mk ?_ ?_ <;> conv => whnf)
    | exact trivial
    | (refine Br.mk (fun hb => ?_) (fun hb => ?_) <;> (first | (exfalso; revert hb; decide) | ((try simp only [BL] at hb) <;> (try simp only [DL] at hb) <;> conv => whnf)))
    | (refine And.intro ?_ ?_; (focus (first | exact id | exact rfl | exact trivial | (intro hg; first | exact hg | exact rfl | (simp; done) | (simp at hg ⊢; assumption)) | omega | decide | exact is2_c _ _ _ | exact is1_c _ _ | exact isS_c _ _ | exact isB_c _ _ | exact Nat.le_refl _ | assumption | exact mulLe (by decide) (by omega) | exact mulLe2 (by decide) (by omega) (by omega) | (intros; simp only [BL] at *; omega) | (intros; (try simp only [BL] at *); (try simp only [DL] at *); omega) | (intros; simp only [BL] at *; rw [wr_id (by omega) (by omega)]; omega) | (intro h1 h2; exact Bool.and_eq_true_iff.2 ⟨h1, h2⟩) | (intros; simp_all; done))); conv => whnf)
    | (refine Or.inr (And.intro rfl ?_); first | (refine congrArg intV ?_) | (refine congrArg boolV ?_) | (refine tupII ?_ ?_) | (refine tupIII ?_ ?_ ?_) | (refine tupU ?_ ?_ ?_ ?_ ?_) | exact rfl))
  refine sem_loop tab_ok gamX1_ok mixed (by kernel_rfl) (O := lex) (fun i : Nat => ⟨[(13, intV i), (12, intV n), (11, .c (.sl 2 n (c2 p q))), (5, intV (lo + S p i)), (1, intV t)], []⟩) (fun i => i ≤ n ∧ ∀ k, k < i → q k < t) (fun i => n - i) ⟨0, [], ⟨Nat.zero_le _, fun k hk => absurd hk (Nat.not_lt_zero _)⟩, ?_⟩ fun i hi => ?_
  · refine Sub.of ?_ ?_ ?_
    repeat' (first | (refine And.intro ?_ ?_) | exact trivial | exact fun _ _ _ => hsc _ _ | (exact congrArg intV (by first | with_reducible rfl | with_reducible assumption)) | exact (rfl : AV.idsLt _ _ = true) | exact (rfl : _ = AV.ren _ (.own _)) | exact (rfl : _ = AV.ren _ (.fn _ _)) | exact (rfl : _ = AV.ren _ (.gh _)) | (exact congrArg intV (by assumption)) | (refine congrArg intV ((wr_id (by omega) (by omega)).trans (by omega))) | exact rfl | (simp only [Int.toNat_natCast, Int.toNat_zero, Nat.sub_zero, Nat.zero_add]; first | exact rfl | done) | exact all0 | exact fun h => Bool.noConfusion h | exact fun _ _ _ _ => rfl | omega)
    · exact congrArg intV (by simp [S])
  have hS := h.sS hi.1
  conv => whnf
  repeat' (first
    | (refine NilG.mk fun bn hbn hbx => ?_; conv => whnf)
    | (refine Both.mk ?_ ?_ <;> conv => whnf)
    | exact trivial
    | (refine Br.mk (fun hb => ?_) (fun hb => ?_) <;> (first | (exfalso; revert hb; decide) | ((try simp only [BL] at hb) <;> (try simp only [DL] at hb) <;> conv => whnf)))
    | (refine And.intro ?_ ?_; (focus (first | exact id | exact rfl | exact trivial | (intro hg; first | exact hg | exact rfl | (simp; done) | (simp at hg ⊢; assumption)) | omega | decide | exact is2_c _ _ _ | exact is1_c _ _ | exact isS_c _ _ | exact isB_c _ _ | exact Nat.le_refl _ | assumption | exact mulLe (by decide) (by omega) | exact mulLe2 (by decide) (by omega) (by omega) | (intros; simp only [BL] at *; omega) | (intros; (try simp only [BL] at *); (try simp only [DL] at *); omega) | (intros; simp only [BL] at *; rw [wr_id (by omega) (by omega)]; omega) | (intro h1 h2; exact Bool.and_eq_true_iff.2 ⟨h1, h2⟩) | (intros; simp_all; done))); conv => whnf)
    | (refine Or.inr (And.intro rfl ?_); first | (refine congrArg intV ?_) | (refine congrArg boolV ?_) | (refine tupII ?_ ?_) | (refine tupIII ?_ ?_ ?_) | (refine tupU ?_ ?_ ?_ ?_ ?_) | exact rfl))
  · rw [SP1_eq h.inc hi.1 hi.2 (fun _ => by omega)]
  · have hS1 := h.sS (k := i + 1) (by omega)
    have hp := h.2.2.2.2.2.1 i (by omega)
    have hSS : S p (i + 1) = S p i + p i := rfl
    have e1 : IntKind.i64.wrap (lo + S p i + p i) = lo + S p (i + 1) := (wr_id (by omega) (by omega)).trans (by omega)
    refine ⟨i + 1, [], ⟨by omega, fun k hk => by rcases Nat.lt_succ_iff_lt_or_eq.1 hk with h | rfl <;> first | exact hi.2 k h | omega⟩, by omega, ?_⟩
    refine Sub.of ?_ ?_ ?_
    repeat' (first | (refine And.intro ?_ ?_) | exact trivial | exact fun _ _ _ => hsc _ _ | (exact congrArg intV (by first | with_reducible rfl | with_reducible assumption)) | exact (rfl : AV.idsLt _ _ = true) | exact (rfl : _ = AV.ren _ (.own _)) | exact (rfl : _ = AV.ren _ (.fn _ _)) | exact (rfl : _ = AV.ren _ (.gh _)) | (exact congrArg intV (by assumption)) | (refine congrArg intV ((wr_id (by omega) (by omega)).trans (by omega))) | exact rfl | (simp only [Int.toNat_natCast, Int.toNat_zero, Nat.sub_zero, Nat.zero_add]; first | exact rfl | done) | exact all0 | exact fun h => Bool.noConfusion h | exact fun _ _ _ _ => rfl | omega)
  · rw [SP1_eq h.inc hi.1 hi.2 (fun _ => by omega)]

def gamX2 : Gam := fun f => match f with
  | 101 => some (sCx (fun _ _ n _ _ => n ≤ maxLen) fun lo v n p q => intV (cxE lo v n p q))
  | 120 => some (s2i (fun _ m => 0 ≤ m ∧ m ≤ 1000000000000000000) outM)
  | 68 => some (sCxi (fun lo v n p q x => okCx lo v n p q ∧ lo ≤ x ∧ x ≤ lo + S p n) fun lo v n p q x => intV (v + S (ct p q (x - lo)) n))
  | 65 => some (sCx okCx fun lo _ n p _ => intV (lo + S p n))
  | 108 => some (sCxi (fun lo v n p q _ => okCx lo v n p q) fun lo _ n p q t => intV (lo + S (SP1 p q t) n))
  | _ => none
theorem gamX2_ok : GOk Try.prog gamX2 := fun f g h => by
  unfold gamX2 at h
  split at h
  · injection h with h; subst h; exact sCx_ok cxCheck
  · injection h with h; subst h; exact s2i_ok cxout
  · injection h with h; subst h; exact sCxi_ok cxat
  · injection h with h; subst h; exact sCx_ok cxhigh
  · injection h with h; subst h; exact sCxi_ok cxlow
  · cases h

theorem cxHigh (lo v : Int) (n : Nat) (p q : Nat → Int) (hn : n ≤ maxLen) : Fn1 Try.prog 76 [cxV lo v n p q] (.tup [intV (if cxE lo v n p q = 0 then lo + S p n else 0), intV (cxE lo v n p q)]) := by
  refine fn_of_wpx (O := lex) tab_ok gamX2_ok mixed Try.func76 (by kernel_rfl) rfl rfl rfl (by simp [Try.ntmps76]) (by kernel_rfl) ?_
  conv => whnf
  repeat' (first
    | (refine NilG.mk fun bn hbn hbx => ?_; conv => whnf)
    | (refine Both.mk ?_ ?_ <;> conv => whnf)
    | exact trivial
    | (refine Br.mk (fun hb => ?_) (fun hb => ?_) <;> (first | (exfalso; revert hb; decide) | ((try simp only [BL] at hb) <;> (try simp only [DL] at hb) <;> conv => whnf)))
    | (refine And.intro ?_ ?_; (focus (first | exact id | exact rfl | exact trivial | (intro hg; first | exact hg | exact rfl | (simp; done) | (simp at hg ⊢; assumption)) | omega | decide | exact is2_c _ _ _ | exact is1_c _ _ | exact isS_c _ _ | exact isB_c _ _ | exact Nat.le_refl _ | assumption | exact mulLe (by decide) (by omega) | exact mulLe2 (by decide) (by omega) (by omega) | (intros; simp only [BL] at *; omega) | (intros; (try simp only [BL] at *); (try simp only [DL] at *); omega) | (intros; simp only [BL] at *; rw [wr_id (by omega) (by omega)]; omega) | (intro h1 h2; exact Bool.and_eq_true_iff.2 ⟨h1, h2⟩) | first | exact ⟨is2_c _ _ _, hn⟩ | exact ⟨is2_c _ _ _, cxE_zero hb⟩ | (intros; simp_all; done))); conv => whnf)
    | (refine Or.inr (And.intro rfl ?_); first | (refine congrArg intV ?_) | (refine congrArg boolV ?_) | (refine tupII ?_ ?_) | (refine tupIII ?_ ?_ ?_) | (refine tupU ?_ ?_ ?_ ?_ ?_) | exact rfl))
  all_goals first | rfl | (simp only [DL]; simp_all; done) | (simp_all; done)

theorem cxLeast (lo v : Int) (n : Nat) (p q : Nat → Int) (hn : n ≤ maxLen) : Fn1 Try.prog 75 [cxV lo v n p q] (.tup [intV (if cxE lo v n p q = 0 then lo + S (SP1 p q 0) n else 0), intV (if cxE lo v n p q = 0 then v + S (ct p q (S (SP1 p q 0) n)) n else 0), intV (cxE lo v n p q)]) := by
  refine fn_of_wpx (O := lex) tab_ok gamX2_ok mixed Try.func75 (by kernel_rfl) rfl rfl rfl (by simp [Try.ntmps75]) (by kernel_rfl) ?_
  conv => whnf
  repeat' (first
    | (refine NilG.mk fun bn hbn hbx => ?_; conv => whnf)
    | (refine Both.mk ?_ ?_ <;> conv => whnf)
    | exact trivial
    | (refine Br.mk (fun hb => ?_) (fun hb => ?_) <;> (first | (exfalso; revert hb; decide) | ((try simp only [BL] at hb) <;> (try simp only [DL] at hb) <;> conv => whnf)))
    | (refine And.intro ?_ ?_; (focus (first | exact id | exact rfl | exact trivial | (intro hg; first | exact hg | exact rfl | (simp; done) | (simp at hg ⊢; assumption)) | omega | decide | exact is2_c _ _ _ | exact is1_c _ _ | exact isS_c _ _ | exact isB_c _ _ | exact Nat.le_refl _ | assumption | exact mulLe (by decide) (by omega) | exact mulLe2 (by decide) (by omega) (by omega) | (intros; simp only [BL] at *; omega) | (intros; (try simp only [BL] at *); (try simp only [DL] at *); omega) | (intros; simp only [BL] at *; rw [wr_id (by omega) (by omega)]; omega) | (intro h1 h2; exact Bool.and_eq_true_iff.2 ⟨h1, h2⟩) | first | exact ⟨is2_c _ _ _, hn⟩ | exact ⟨is2_c _ _ _, cxE_zero hb⟩ | (have hP := SP1_in (q := q) (cxE_zero hb).pos 0; exact ⟨is2_c _ _ _, cxE_zero hb, by simp only [DL]; omega, by simp only [DL]; omega⟩) | (intros; simp_all; done))); conv => whnf)
    | (refine Or.inr (And.intro rfl ?_); first | (refine congrArg intV ?_) | (refine congrArg boolV ?_) | (refine tupII ?_ ?_) | (refine tupIII ?_ ?_ ?_) | (refine tupU ?_ ?_ ?_ ?_ ?_) | exact rfl))
  iterate 3
    · have h0 : ¬ cxE lo v n p q = 0 := hb
      first | exact (if_neg h0).symm | rfl
  · exact (if_pos hb).symm
  · rw [if_pos hb]
    simp only [DL]
    rw [show lo + S (SP1 p q 0) n - lo = S (SP1 p q 0) n by omega]
  · exact hb.symm

/-- the error of a slope -/
def cjE (lo v : Int) (n : Nat) (p q : Nat → Int) (t : Int) : Int := if cxE lo v n p q ≠ 0 then cxE lo v n p q else if t < -10000000 ∨ 10000000 < t then 4 else 0
end Go.Proofs.Ytkkkldhilofgmaa
