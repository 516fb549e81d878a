/-
  TopHours: the errors of a forecast, and the law's helpers.
-/
import Derived.Test.YtinamdapdlnlnaaHblK
import Derived.Test.YtinamdapdlnlnaaWinO
import Derived.Test.YtinamdapdlnlnaaIntF
namespace Go.Proofs.Ytinamdapdlnlnaa
open Go.RowKit

def gamT1 : Gam := fun f => match f with
  | 23 => some (s3 fun n a b => !inB n a b)
  | _ => none
theorem gamT1_ok : GOk Try.prog gamT1 := fun f g h => by
  unfold gamT1 at h
  split at h
  · injection h with h; subst h; exact s3_ok gOut
  · cases h
def badT (x : Int) : Bool := !inB x (-100000) 100000
theorem tBad (x : Int) : Fn1 Try.prog 45 [intV x] (boolV (badT x)) := by
  refine fn_of_wpx (O := lex) tab_ok gamT1_ok mixed Try.func45 (by kernel_rfl) rfl rfl rfl (by simp [Try.ntmps45]) (by kernel_rfl) ?_
  conv => whnf
  repeat' (first
    | (refine NilG.mk fun bn hbn => ?_; conv => whnf)
    | (refine Both.mk ?_ ?_ <;> conv => whnf)
    | exact trivial
    | (refine Br.mk (fun hb => ?_) (fun hb => ?_) <;> (first | (exfalso; revert hb; decide) | ((try simp only [BL] at hb) <;> (try simp only [DL] at hb) <;> conv => whnf)))
    | (refine And.intro ?_ ?_; (focus (first | exact id | exact rfl | exact trivial | (intro hg; first | exact hg | exact rfl | (simp; done) | (simp at hg ⊢; assumption)) | omega | decide | exact is2_c _ _ _ | exact is1_c _ _ | exact isS_c _ _ | exact isB_c _ _ | exact Nat.le_refl _ | assumption | exact mulLe (by decide) (by omega) | exact mulLe2 (by decide) (by omega) (by omega) | (intros; simp only [BL] at *; omega) | (intros; (try simp only [BL] at *); (try simp only [DL] at *); omega) | (intros; simp only [BL] at *; rw [wr_id (by omega) (by omega)]; omega) | (intro h1 h2; exact Bool.and_eq_true_iff.2 ⟨h1, h2⟩) | (intros; simp_all; done))); conv => whnf)
    | (refine Or.inr (And.intro rfl ?_); first | (refine congrArg intV ?_) | (refine congrArg boolV ?_) | (refine tupII ?_ ?_) | (refine tupIII ?_ ?_ ?_) | (refine tupU ?_ ?_ ?_ ?_ ?_) | exact rfl))
  · rfl
def tcE (n : Nat) (w : Nat → Int) : Int := if 24 < n then 2 else if fidx (fun k => badT (w k)) n ≥ 0 then 4 else 0
theorem tcE_zero {n : Nat} {w : Nat → Int} (h : tcE n w = 0) : n ≤ 24 ∧ ∀ k, k < n → -100000 ≤ w k ∧ w k ≤ 100000 := by
  unfold tcE at h
  split at h
  · cases h
  · split at h
    · cases h
    · rename_i h2
      refine ⟨by omega, fun k hk => ?_⟩
      have := fidx_neg h2 k hk
      simp only [badT, inB, BL] at this
      omega
theorem tCheck (n : Nat) (w : Nat → Int) (hn : n ≤ maxLen) : Fn1 Try.prog 31 [.c (.sl 1 n (c1 w))] (intV (tcE n w)) := by
  refine fn_of_wpx (O := lex) tab_ok gamT1_ok mixed Try.func31 (by kernel_rfl) rfl rfl rfl (by simp [Try.ntmps31]) (by kernel_rfl) ?_
  have hn' : n ≤ 9223372036854775807 := hn
  conv => whnf
  repeat' (first
    | (refine NilG.mk fun bn hbn => ?_; conv => whnf)
    | (refine Both.mk ?_ ?_ <;> conv => whnf)
    | exact trivial
    | (refine Br.mk (fun hb => ?_) (fun hb => ?_) <;> (first | (exfalso; revert hb; decide) | ((try simp only [BL] at hb) <;> (try simp only [DL] at hb) <;> conv => whnf)))
    | (refine And.intro ?_ ?_; (focus (first | exact id | exact rfl | exact trivial | (intro hg; first | exact hg | exact rfl | (simp; done) | (simp at hg ⊢; assumption)) | omega | decide | exact is2_c _ _ _ | exact is1_c _ _ | exact isS_c _ _ | exact isB_c _ _ | exact Nat.le_refl _ | assumption | exact mulLe (by decide) (by omega) | exact mulLe2 (by decide) (by omega) (by omega) | (intros; simp only [BL] at *; omega) | (intros; (try simp only [BL] at *); (try simp only [DL] at *); omega) | (intros; simp only [BL] at *; rw [wr_id (by omega) (by omega)]; omega) | (intro h1 h2; exact Bool.and_eq_true_iff.2 ⟨h1, h2⟩) | (intros; simp_all; done))); conv => whnf)
    | (refine Or.inr (And.intro rfl ?_); first | (refine congrArg intV ?_) | (refine congrArg boolV ?_) | (refine tupII ?_ ?_) | (refine tupIII ?_ ?_ ?_) | (refine tupU ?_ ?_ ?_ ?_ ?_) | exact rfl))
  · unfold tcE; rw [if_pos (by omega)]
  refine CallG.mk (Fn.mono (iCont tBad n w hn) ?_)
  rintro obs r ⟨rfl, rfl⟩
  conv => whnf
  repeat' (first
    | (refine NilG.mk fun bn hbn => ?_; conv => whnf)
    | (refine Both.mk ?_ ?_ <;> conv => whnf)
    | exact trivial
    | (refine Br.mk (fun hb => ?_) (fun hb => ?_) <;> (first | (exfalso; revert hb; decide) | ((try simp only [BL] at hb) <;> (try simp only [DL] at hb) <;> conv => whnf)))
    | (refine And.intro ?_ ?_; (focus (first | exact id | exact rfl | exact trivial | (intro hg; first | exact hg | exact rfl | (simp; done) | (simp at hg ⊢; assumption)) | omega | decide | exact is2_c _ _ _ | exact is1_c _ _ | exact isS_c _ _ | exact isB_c _ _ | exact Nat.le_refl _ | assumption | exact mulLe (by decide) (by omega) | exact mulLe2 (by decide) (by omega) (by omega) | (intros; simp only [BL] at *; omega) | (intros; (try simp only [BL] at *); (try simp only [DL] at *); omega) | (intros; simp only [BL] at *; rw [wr_id (by omega) (by omega)]; omega) | (intro h1 h2; exact Bool.and_eq_true_iff.2 ⟨h1, h2⟩) | (intros; simp_all; done))); conv => whnf)
    | (refine Or.inr (And.intro rfl ?_); first | (refine congrArg intV ?_) | (refine congrArg boolV ?_) | (refine tupII ?_ ?_) | (refine tupIII ?_ ?_ ?_) | (refine tupU ?_ ?_ ?_ ?_ ?_) | exact rfl))
  · unfold tcE; rw [if_neg (by omega), if_pos (by omega)]
  · unfold tcE; rw [if_neg (by omega), if_neg (by omega)]
def sTc : List AV → Sd × AV
  | [.c (.sl 1 n f)] => (.p (is1 n f ∧ n ≤ maxLen), intV (tcE n (d0 f)))
  | _ => (.p False, .top)
def gamT2 : Gam := fun f => match f with
  | 31 => some sTc
  | _ => none
theorem gamT2_ok : GOk Try.prog gamT2 := fun f g h => by
  unfold gamT2 at h
  split at h
  · injection h with h; subst h
    intro args hs _
    unfold sTc at hs ⊢
    split at hs
    · exact (tCheck _ _ hs.2).le (Le.cons (Le1.sl hs.1) Le.nil)
    · exact hs.elim
  · cases h
/-- the error of a forecast; the greatest difference -/
def erE (n k : Nat) (w u : Nat → Int) : Int := if tcE n w ≠ 0 then tcE n w else if tcE k u ≠ 0 then tcE k u else if n ≠ k then 3 else 0
def mxE (w u : Nat → Int) : Nat → Int
  | 0 => 0
  | i + 1 => max (max (mxE w u i) (u i - w i)) (-(u i - w i))
theorem erE_zero {n k : Nat} {w u : Nat → Int} (h : erE n k w u = 0) : k = n ∧ n ≤ 24 ∧ ∀ i, i < n → (-100000 ≤ w i ∧ w i ≤ 100000) ∧ -100000 ≤ u i ∧ u i ≤ 100000 := by
  unfold erE at h
  split at h
  · rename_i hh; exact absurd h hh
  · rename_i h0
    split at h
    · rename_i hh; exact absurd h hh
    · rename_i h1
      split at h
      · cases h
      · obtain ⟨g1, g2⟩ := tcE_zero (show tcE n w = 0 by simpa using h0)
        obtain ⟨g3, g4⟩ := tcE_zero (show tcE k u = 0 by simpa using h1)
        obtain rfl : n = k := by omega
        exact ⟨rfl, g1, fun i hi => ⟨g2 i hi, g4 i hi⟩⟩
def erG (n k : Nat) (w u : Nat → Int) (obs : List OB) (v : AV) : Prop :=
  obs = [] ∧ ∃ a b c, v = .tup [intV a, intV b, intV c, intV (erE n k w u)] ∧ (erE n k w u = 0 → a = mxE w u n)
theorem hErrors (n k : Nat) (w u : Nat → Int) (hn : n ≤ maxLen) (hk : k ≤ maxLen) : Fn Try.prog 9 [.c (.sl 1 n (c1 w)), .c (.sl 1 k (c1 u))] (erG n k w u) := by
  refine fn_of_wpx (O := lex) tab_ok gamT2_ok mixed Try.func9 (by kernel_rfl) rfl rfl rfl (by simp [Try.ntmps9]) (by kernel_rfl) ?_
  have hn' : n ≤ 9223372036854775807 := hn
  have hk' : k ≤ 9223372036854775807 := hk
  conv => whnf
  repeat' (first
    | (refine NilG.mk fun bn hbn => ?_; conv => whnf)
    | (refine Both.mk ?_ ?_ <;> conv => whnf)
    | exact trivial
    | (refine Br.mk (fun hb => ?_) (fun hb => ?_) <;> (first | (exfalso; revert hb; decide) | ((try simp only [BL] at hb) <;> (try simp only [DL] at hb) <;> conv => whnf)))
    | (refine And.intro ?_ ?_; (focus (first | exact id | exact rfl | exact trivial | (intro hg; first | exact hg | exact rfl | (simp; done) | (simp at hg ⊢; assumption)) | omega | decide | exact is2_c _ _ _ | exact is1_c _ _ | exact isS_c _ _ | exact isB_c _ _ | exact Nat.le_refl _ | assumption | exact mulLe (by decide) (by omega) | exact mulLe2 (by decide) (by omega) (by omega) | (intros; simp only [BL] at *; omega) | (intros; (try simp only [BL] at *); (try simp only [DL] at *); omega) | (intros; simp only [BL] at *; rw [wr_id (by omega) (by omega)]; omega) | (intro h1 h2; exact Bool.and_eq_true_iff.2 ⟨h1, h2⟩) | (intros; simp_all; done))); conv => whnf)
    | (refine Or.inr (And.intro rfl ?_); first | (refine congrArg intV ?_) | (refine congrArg boolV ?_) | (refine tupII ?_ ?_) | (refine tupIII ?_ ?_ ?_) | (refine tupU ?_ ?_ ?_ ?_ ?_) | exact rfl))
  refine sem_loop tab_ok gamT2_ok mixed (by kernel_rfl) (O := lex) (fun i : Nat => ⟨[(0, .c (.sl 1 n (c1 w))), (1, .c (.sl 1 k (c1 u))), (19, .agg [.c (.sl 1 n (c1 w)), .c (.sl 1 k (c1 u))]), (20, intV i)], []⟩) (fun i => i ≤ 2 ∧ (0 < i → tcE n w = 0) ∧ (1 < i → tcE k u = 0)) (fun i => 2 - i) ⟨0, [], ⟨by decide, fun h => absurd h (by decide), fun h => absurd h (by decide)⟩, ?_⟩ fun i hi => ?_
  · refine Sub.of ?_ ?_ ?_
    repeat' (first | (refine And.intro ?_ ?_) | exact trivial | exact fun _ _ _ => hsc _ _ | (exact congrArg intV (by first | with_reducible rfl | with_reducible assumption)) | exact (rfl : AV.idsLt _ _ = true) | exact (rfl : _ = AV.ren _ (.own _)) | exact (rfl : _ = AV.ren _ (.fn _ _)) | exact (rfl : _ = AV.ren _ (.gh _)) | (exact congrArg intV (by assumption)) | (refine congrArg intV ((wr_id (by omega) (by omega)).trans (by omega))) | exact rfl | (simp only [Int.toNat_natCast, Int.toNat_zero, Nat.sub_zero, Nat.zero_add]; first | exact rfl | done) | exact all0 | exact fun h => Bool.noConfusion h | exact fun _ _ _ _ => rfl | omega)
  obtain ⟨hi2, hi0, hi1⟩ := hi
  match i, hi2, hi0, hi1 with
  | 0, _, _, _ =>
    conv => whnf
    repeat' (first
      | (refine NilG.mk fun bn hbn => ?_; conv => whnf)
      | (refine Both.mk ?_ ?_ <;> conv => whnf)
      | exact trivial
      | (refine Br.mk (fun hb => ?_) (fun hb => ?_) <;> (first | (exfalso; revert hb; decide) | ((try simp only [BL] at hb) <;> (try simp only [DL] at hb) <;> conv => whnf)))
      | (refine And.intro ?_ ?_; (focus (first | exact id | exact rfl | exact trivial | (intro hg; first | exact hg | exact rfl | (simp; done) | (simp at hg ⊢; assumption)) | omega | decide | exact is2_c _ _ _ | exact is1_c _ _ | exact isS_c _ _ | exact isB_c _ _ | exact Nat.le_refl _ | assumption | exact mulLe (by decide) (by omega) | exact mulLe2 (by decide) (by omega) (by omega) | (intros; simp only [BL] at *; omega) | (intros; (try simp only [BL] at *); (try simp only [DL] at *); omega) | (intros; simp only [BL] at *; rw [wr_id (by omega) (by omega)]; omega) | (intro h1 h2; exact Bool.and_eq_true_iff.2 ⟨h1, h2⟩) | exact ⟨is1_c _ _, hn⟩ | (intros; simp_all; done))); conv => whnf)
      | (refine Or.inr (And.intro rfl ?_); first | (refine congrArg intV ?_) | (refine congrArg boolV ?_) | (refine tupII ?_ ?_) | (refine tupIII ?_ ?_ ?_) | (refine tupU ?_ ?_ ?_ ?_ ?_) | exact rfl))
    · have e : erE n k w u = tcE n w := by unfold erE; rw [if_pos hb]
      exact .inr ⟨rfl, 0, 0, 0, by rw [e]; rfl, fun h => absurd (e ▸ h) hb⟩
    · have h0 : tcE n w = 0 := hb
      refine ⟨1, [], ⟨by decide, fun _ => h0, fun h => absurd h (by decide)⟩, by omega, ?_⟩
      refine Sub.of ?_ ?_ ?_
      repeat' (first | (refine And.intro ?_ ?_) | exact trivial | exact fun _ _ _ => hsc _ _ | (exact congrArg intV (by first | with_reducible rfl | with_reducible assumption)) | exact (rfl : AV.idsLt _ _ = true) | exact (rfl : _ = AV.ren _ (.own _)) | exact (rfl : _ = AV.ren _ (.fn _ _)) | exact (rfl : _ = AV.ren _ (.gh _)) | (exact congrArg intV (by assumption)) | (refine congrArg intV ((wr_id (by omega) (by omega)).trans (by omega))) | exact rfl | (simp only [Int.toNat_natCast, Int.toNat_zero, Nat.sub_zero, Nat.zero_add]; first | exact rfl | done) | exact all0 | exact fun h => Bool.noConfusion h | exact fun _ _ _ _ => rfl | omega)
  | 1, _, hi0, _ =>
    have h0 := hi0 (by decide)
    conv => whnf
    repeat' (first
      | (refine NilG.mk fun bn hbn => ?_; conv => whnf)
      | (refine Both.mk ?_ ?_ <;> conv => whnf)
      | exact trivial
      | (refine Br.mk (fun hb => ?_) (fun hb => ?_) <;> (first | (exfalso; revert hb; decide) | ((try simp only [BL] at hb) <;> (try simp only [DL] at hb) <;> conv => whnf)))
      | (refine And.intro ?_ ?_; (focus (first | exact id | exact rfl | exact trivial | (intro hg; first | exact hg | exact rfl | (simp; done) | (simp at hg ⊢; assumption)) | omega | decide | exact is2_c _ _ _ | exact is1_c _ _ | exact isS_c _ _ | exact isB_c _ _ | exact Nat.le_refl _ | assumption | exact mulLe (by decide) (by omega) | exact mulLe2 (by decide) (by omega) (by omega) | (intros; simp only [BL] at *; omega) | (intros; (try simp only [BL] at *); (try simp only [DL] at *); omega) | (intros; simp only [BL] at *; rw [wr_id (by omega) (by omega)]; omega) | (intro h1 h2; exact Bool.and_eq_true_iff.2 ⟨h1, h2⟩) | exact ⟨is1_c _ _, hk⟩ | (intros; simp_all; done))); conv => whnf)
      | (refine Or.inr (And.intro rfl ?_); first | (refine congrArg intV ?_) | (refine congrArg boolV ?_) | (refine tupII ?_ ?_) | (refine tupIII ?_ ?_ ?_) | (refine tupU ?_ ?_ ?_ ?_ ?_) | exact rfl))
    · have e : erE n k w u = tcE k u := by unfold erE; rw [if_neg (fun h => h h0), if_pos hb]
      exact .inr ⟨rfl, 0, 0, 0, by rw [e]; rfl, fun h => absurd (e ▸ h) hb⟩
    · have h1 : tcE k u = 0 := hb
      refine ⟨2, [], ⟨by decide, fun _ => h0, fun _ => h1⟩, by omega, ?_⟩
      refine Sub.of ?_ ?_ ?_
      repeat' (first | (refine And.intro ?_ ?_) | exact trivial | exact fun _ _ _ => hsc _ _ | (exact congrArg intV (by first | with_reducible rfl | with_reducible assumption)) | exact (rfl : AV.idsLt _ _ = true) | exact (rfl : _ = AV.ren _ (.own _)) | exact (rfl : _ = AV.ren _ (.fn _ _)) | exact (rfl : _ = AV.ren _ (.gh _)) | (exact congrArg intV (by assumption)) | (refine congrArg intV ((wr_id (by omega) (by omega)).trans (by omega))) | exact rfl | (simp only [Int.toNat_natCast, Int.toNat_zero, Nat.sub_zero, Nat.zero_add]; first | exact rfl | done) | exact all0 | exact fun h => Bool.noConfusion h | exact fun _ _ _ _ => rfl | omega)
  | 2, _, hi0, hi1 =>
    have h0 := hi0 (by decide)
    have h1 := hi1 (by decide)
    conv => whnf
    repeat' (first
      | (refine NilG.mk fun bn hbn => ?_; conv => whnf)
      | (refine Both.mk ?_ ?_ <;> conv => whnf)
      | exact trivial
      | (refine Br.mk (fun hb => ?_) (fun hb => ?_) <;> (first | (exfalso; revert hb; decide) | ((try simp only [BL] at hb) <;> (try simp only [DL] at hb) <;> conv => whnf)))
      | (refine And.intro ?_ ?_; (focus (first | exact id | exact rfl | exact trivial | (intro hg; first | exact hg | exact rfl | (simp; done) | (simp at hg ⊢; assumption)) | omega | decide | exact is2_c _ _ _ | exact is1_c _ _ | exact isS_c _ _ | exact isB_c _ _ | exact Nat.le_refl _ | assumption | exact mulLe (by decide) (by omega) | exact mulLe2 (by decide) (by omega) (by omega) | (intros; simp only [BL] at *; omega) | (intros; (try simp only [BL] at *); (try simp only [DL] at *); omega) | (intros; simp only [BL] at *; rw [wr_id (by omega) (by omega)]; omega) | (intro h1 h2; exact Bool.and_eq_true_iff.2 ⟨h1, h2⟩) | (intros; simp_all; done))); conv => whnf)
      | (refine Or.inr (And.intro rfl ?_); first | (refine congrArg intV ?_) | (refine congrArg boolV ?_) | (refine tupII ?_ ?_) | (refine tupIII ?_ ?_ ?_) | (refine tupU ?_ ?_ ?_ ?_ ?_) | exact rfl))
    · have e : erE n k w u = 3 := by unfold erE; rw [if_neg (fun h => h h0), if_neg (fun h => h h1), if_pos (by omega)]
      exact .inr ⟨rfl, 0, 0, 0, by rw [e]; rfl, fun h => absurd (e ▸ h) (by decide)⟩
    have hnk : n = k := by omega
    subst hnk
    have e : erE n n w u = 0 := by unfold erE; rw [if_neg (fun h => h h0), if_neg (fun h => h h1), if_neg (fun h => h rfl)]
    obtain ⟨_, g1, g2⟩ := erE_zero e
    have hd : ∀ j, j < n → -200000 ≤ u j - w j ∧ u j - w j ≤ 200000 := fun j hj => by have := g2 j hj; omega
    have hmx : ∀ j, j ≤ n → 0 ≤ mxE w u j ∧ mxE w u j ≤ 200000 := fun j => by
      induction j with
      | zero => intro _; exact ⟨Int.le_refl _, show (0 : Int) ≤ 200000 by decide⟩
      | succ j ih =>
        intro hj
        have := ih (by omega)
        have := hd j (by omega)
        simp only [mxE]
        omega
    have hsm : ∀ j, j ≤ n → -200000 * (j : Int) ≤ S (fun j => u j - w j) j ∧ S (fun j => u j - w j) j ≤ 200000 * (j : Int) := fun j hj => S_le (p := fun j => u j - w j) (a := -200000) (b := 200000) (k := j) fun i hi => hd i (by omega)
    have hq2 : ∀ j, j < n → 0 ≤ (u j - w j) * (u j - w j) ∧ (u j - w j) * (u j - w j) ≤ 40000000000 := fun j hj => by
      have h := hd j hj
      rcases Int.le_total 0 (u j - w j) with h0 | h0
      · have := mulB (a := u j - w j) (b := u j - w j) (A := 200000) (B := 200000) (by omega) (by omega) (by omega) (by omega) (by omega)
        have := Int.mul_nonneg h0 h0
        omega
      · have := mulB (a := -(u j - w j)) (b := -(u j - w j)) (A := 200000) (B := 200000) (by omega) (by omega) (by omega) (by omega) (by omega)
        have := Int.mul_nonneg (a := -(u j - w j)) (b := -(u j - w j)) (by omega) (by omega)
        rw [Int.neg_mul_neg] at *
        omega
    have hqs : ∀ j, j ≤ n → 0 * (j : Int) ≤ S (fun j => (u j - w j) * (u j - w j)) j ∧ S (fun j => (u j - w j) * (u j - w j)) j ≤ 40000000000 * (j : Int) := fun j hj => S_le (p := fun j => (u j - w j) * (u j - w j)) (a := 0) (b := 40000000000) (k := j) fun i hi => hq2 i (by omega)
    refine sem_loop tab_ok gamT2_ok mixed (by kernel_rfl) (O := lex) (fun j : Nat => ⟨[(0, .c (.sl 1 n (c1 w))), (11, intV (mxE w u j)), (12, intV (S (fun j => u j - w j) j)), (13, intV (S (fun j => (u j - w j) * (u j - w j)) j)), (34, .c (.sl 1 n (c1 u))), (35, intV n), (36, intV j)], []⟩) (fun j => j ≤ n) (fun j => n - j) ⟨0, [], Nat.zero_le _, ?_⟩ fun j hj => ?_
    · refine Sub.of ?_ ?_ ?_
      repeat' (first | (refine And.intro ?_ ?_) | exact trivial | exact fun _ _ _ => hsc _ _ | (exact congrArg intV (by first | with_reducible rfl | with_reducible assumption)) | exact (rfl : AV.idsLt _ _ = true) | exact (rfl : _ = AV.ren _ (.own _)) | exact (rfl : _ = AV.ren _ (.fn _ _)) | exact (rfl : _ = AV.ren _ (.gh _)) | (exact congrArg intV (by assumption)) | (refine congrArg intV ((wr_id (by omega) (by omega)).trans (by omega))) | exact rfl | (simp only [Int.toNat_natCast, Int.toNat_zero, Nat.sub_zero, Nat.zero_add]; first | exact rfl | done) | exact all0 | exact fun h => Bool.noConfusion h | exact fun _ _ _ _ => rfl | omega)
    have hdj := hd j
    have hw : j < n → IntKind.i64.wrap (u j - w j) = u j - w j := fun h => wr_id (by have := hd j h; omega) (by have := hd j h; omega)
    conv => whnf
    repeat' (first
      | (refine NilG.mk fun bn hbn => ?_; conv => whnf)
      | (refine Both.mk ?_ ?_ <;> conv => whnf)
      | exact trivial
      | (refine Br.mk (fun hb => ?_) (fun hb => ?_) <;> (first | (exfalso; revert hb; decide) | ((try simp only [BL] at hb) <;> (try simp only [DL] at hb) <;> conv => whnf)))
      | (refine And.intro ?_ ?_; (focus (first | exact id | exact rfl | exact trivial | (intro hg; first | exact hg | exact rfl | (simp; done) | (simp at hg ⊢; assumption)) | omega | decide | exact is2_c _ _ _ | exact is1_c _ _ | exact isS_c _ _ | exact isB_c _ _ | exact Nat.le_refl _ | assumption | exact mulLe (by decide) (by omega) | exact mulLe2 (by decide) (by omega) (by omega) | (intros; simp only [BL] at *; omega) | (intros; (try simp only [BL] at *); (try simp only [DL] at *); omega) | (intros; simp only [BL] at *; rw [wr_id (by omega) (by omega)]; omega) | (intro h1 h2; exact Bool.and_eq_true_iff.2 ⟨h1, h2⟩) | (intros; simp_all; done))); conv => whnf)
      | (refine Or.inr (And.intro rfl ?_); first | (refine congrArg intV ?_) | (refine congrArg boolV ?_) | (refine tupII ?_ ?_) | (refine tupIII ?_ ?_ ?_) | (refine tupU ?_ ?_ ?_ ?_ ?_) | exact rfl))
    · have hjn : j < n := by omega
      have hw := hw hjn
      have hdj := hdj hjn
      have m1 := hmx j hj
      have s1 := hsm (j + 1) hjn
      have q1 := hqs (j + 1) hjn
      have q2 := hq2 j hjn
      have k1 : S (fun j => u j - w j) (j + 1) = S (fun j => u j - w j) j + (u j - w j) := rfl
      have k2 : S (fun j => (u j - w j) * (u j - w j)) (j + 1) = S (fun j => (u j - w j) * (u j - w j)) j + (u j - w j) * (u j - w j) := rfl
      have e1 : max (max (mxE w u j) (IntKind.i64.wrap (u j - w j))) (IntKind.i64.wrap (0 - IntKind.i64.wrap (u j - w j))) = mxE w u (j + 1) := by
        rw [hw, wr_id (by omega) (by omega)]
        simp only [mxE]
        omega
      have e2 : IntKind.i64.wrap (S (fun j => u j - w j) j + IntKind.i64.wrap (u j - w j)) = S (fun j => u j - w j) (j + 1) := by
        rw [hw, k1]
        exact wr_id (by omega) (by omega)
      have e3 : IntKind.i64.wrap (S (fun j => (u j - w j) * (u j - w j)) j + IntKind.i64.wrap (IntKind.i64.wrap (u j - w j) * IntKind.i64.wrap (u j - w j))) = S (fun j => (u j - w j) * (u j - w j)) (j + 1) := by
        rw [hw, wr_id (x := (u j - w j) * (u j - w j)) (by omega) (by omega), k2]
        exact wr_id (by omega) (by omega)
      refine ⟨j + 1, [], by omega, by omega, ?_⟩
      refine Sub.of ?_ ?_ ?_
      repeat' (first | (refine And.intro ?_ ?_) | exact trivial | exact fun _ _ _ => hsc _ _ | (exact congrArg intV (by first | with_reducible rfl | with_reducible assumption)) | exact (rfl : AV.idsLt _ _ = true) | exact (rfl : _ = AV.ren _ (.own _)) | exact (rfl : _ = AV.ren _ (.fn _ _)) | exact (rfl : _ = AV.ren _ (.gh _)) | (exact congrArg intV (by assumption)) | (refine congrArg intV ((wr_id (by omega) (by omega)).trans (by omega))) | exact rfl | (simp only [Int.toNat_natCast, Int.toNat_zero, Nat.sub_zero, Nat.zero_add]; first | exact rfl | done) | exact all0 | exact fun h => Bool.noConfusion h | exact fun _ _ _ _ => rfl | omega)
    · obtain rfl : j = n := by omega
      exact .inr ⟨rfl, mxE w u j, _, _, by rw [e]; rfl, fun _ => rfl⟩
end Go.Proofs.Ytinamdapdlnlnaa
