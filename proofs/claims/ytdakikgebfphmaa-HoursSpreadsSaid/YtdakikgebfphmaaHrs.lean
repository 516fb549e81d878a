/-
  The package hours: Check, Sums, and the comparison of Spread.
-/
import Derived.Test.YtdakikgebfphmaaName
import Derived.Test.YtdakikgebfphmaaSrt5Hrs
namespace Go.Proofs.Ytdakikgebfphmaa
open Go.RowKit

theorem hOut (n low high : Int) : Fn1 Try.prog 80 [intV n, intV low, intV high] (boolV (!inB n low high)) := by
  refine fn_of_wpx (O := lex) tab_ok (Γ := fun _ => none) (fun _ _ h => by cases h) mixed Try.func80 (by kernel_rfl) rfl rfl rfl (by simp [Try.ntmps80]) (by kernel_rfl) ?_
  conv => whnf
  repeat' (first
    | (refine NilG.mk fun bn hbn => ?_; conv => whnf)
    | (refine Both.mk ?_ ?_ <;> conv => whnf)
    | exact trivial
    | (refine Br.mk (fun hb => ?_) (fun hb => ?_) <;> (first | (exfalso; revert hb; decide) | ((try simp only [BL] at hb) <;> (try simp only [DL] at hb) <;> conv => whnf)))
    | (refine And.intro ?_ ?_; (focus (first | exact id | exact rfl | exact trivial | (intro hg; first | exact hg | exact rfl | (simp; done) | (simp at hg ⊢; assumption)) | omega | decide | exact is2_c _ _ _ | exact is1_c _ _ | exact isS_c _ _ | exact isB_c _ _ | exact Nat.le_refl _ | assumption | exact mulLe (by decide) (by omega) | exact mulLe2 (by decide) (by omega) (by omega) | (intros; simp only [BL] at *; omega) | (intros; (try simp only [BL] at *); (try simp only [DL] at *); omega) | (intros; simp only [BL] at *; rw [wr_id (by omega) (by omega)]; omega) | (intros; simp_all; done))); conv => whnf)
    | (refine Or.inr (And.intro rfl ?_); first | (refine congrArg intV ?_) | (refine congrArg boolV ?_) | (refine tupII ?_ ?_) | (refine tupIII ?_ ?_ ?_) | (refine tupU ?_ ?_ ?_ ?_ ?_) | exact rfl))
  · show (decide (n < low) || decide (n > high)) = !(decide (n ≥ low) && decide (n ≤ high))
    rw [Bool.eq_iff_iff]
    simp only [BL]
    omega
def gamHA : Gam := fun f => match f with
  | 80 => some (s3 fun n a b => !inB n a b)
  | 22 => some (s3 inB)
  | _ => none
theorem gamHA_ok : GOk Try.prog gamHA := fun f g h => by
  unfold gamHA at h
  split at h
  · injection h with h; subst h; exact s3_ok hOut
  · injection h with h; subst h; exact s3_ok in3
  · cases h
def badW (x : Int) : Bool := !inB x (-100000) 100000
def negW (x : Int) : Bool := decide (x < 0)
theorem hBad (x : Int) : Fn1 Try.prog 85 [intV x] (boolV (badW x)) := by
  refine fn_of_wpx (O := lex) tab_ok gamHA_ok mixed Try.func85 (by kernel_rfl) rfl rfl rfl (by simp [Try.ntmps85]) (by kernel_rfl) ?_
  conv => whnf
  repeat' (first
    | (refine NilG.mk fun bn hbn => ?_; conv => whnf)
    | (refine Both.mk ?_ ?_ <;> conv => whnf)
    | exact trivial
    | (refine Br.mk (fun hb => ?_) (fun hb => ?_) <;> (first | (exfalso; revert hb; decide) | ((try simp only [BL] at hb) <;> (try simp only [DL] at hb) <;> conv => whnf)))
    | (refine And.intro ?_ ?_; (focus (first | exact id | exact rfl | exact trivial | (intro hg; first | exact hg | exact rfl | (simp; done) | (simp at hg ⊢; assumption)) | omega | decide | exact is2_c _ _ _ | exact is1_c _ _ | exact isS_c _ _ | exact isB_c _ _ | exact Nat.le_refl _ | assumption | exact mulLe (by decide) (by omega) | exact mulLe2 (by decide) (by omega) (by omega) | (intros; simp only [BL] at *; omega) | (intros; (try simp only [BL] at *); (try simp only [DL] at *); omega) | (intros; simp only [BL] at *; rw [wr_id (by omega) (by omega)]; omega) | (intros; simp_all; done))); conv => whnf)
    | (refine Or.inr (And.intro rfl ?_); first | (refine congrArg intV ?_) | (refine congrArg boolV ?_) | (refine tupII ?_ ?_) | (refine tupIII ?_ ?_ ?_) | (refine tupU ?_ ?_ ?_ ?_ ?_) | exact rfl))
  · rfl
theorem hNeg (x : Int) : Fn1 Try.prog 82 [intV x] (boolV (negW x)) := by
  refine fn_of_wpx (O := lex) tab_ok gamHA_ok mixed Try.func82 (by kernel_rfl) rfl rfl rfl (by simp [Try.ntmps82]) (by kernel_rfl) ?_
  conv => whnf
  repeat' (first
    | (refine NilG.mk fun bn hbn => ?_; conv => whnf)
    | (refine Both.mk ?_ ?_ <;> conv => whnf)
    | exact trivial
    | (refine Br.mk (fun hb => ?_) (fun hb => ?_) <;> (first | (exfalso; revert hb; decide) | ((try simp only [BL] at hb) <;> (try simp only [DL] at hb) <;> conv => whnf)))
    | (refine And.intro ?_ ?_; (focus (first | exact id | exact rfl | exact trivial | (intro hg; first | exact hg | exact rfl | (simp; done) | (simp at hg ⊢; assumption)) | omega | decide | exact is2_c _ _ _ | exact is1_c _ _ | exact isS_c _ _ | exact isB_c _ _ | exact Nat.le_refl _ | assumption | exact mulLe (by decide) (by omega) | exact mulLe2 (by decide) (by omega) (by omega) | (intros; simp only [BL] at *; omega) | (intros; (try simp only [BL] at *); (try simp only [DL] at *); omega) | (intros; simp only [BL] at *; rw [wr_id (by omega) (by omega)]; omega) | (intros; simp_all; done))); conv => whnf)
    | (refine Or.inr (And.intro rfl ?_); first | (refine congrArg intV ?_) | (refine congrArg boolV ?_) | (refine tupII ?_ ?_) | (refine tupIII ?_ ?_ ?_) | (refine tupU ?_ ?_ ?_ ?_ ?_) | exact rfl))
  · rfl
section
variable {F : FuncId} {p : Int → Bool}
theorem hIdx (hp : ∀ x, Fn1 Try.prog F [intV x] (boolV (p x))) (n : Nat) (w : Nat → Int) (hn : n ≤ maxLen) : Fn1 Try.prog 119 [.c (.sl 1 n (c1 w)), .fn F []] (intV (fidx (fun k => p (w k)) n)) := by
  refine fn_of_wpx (O := lex) tab_ok gamHA_ok mixed Try.func119 (by kernel_rfl) rfl rfl rfl (by simp [Try.ntmps119]) (by kernel_rfl) ?_
  have hn' : n ≤ 9223372036854775807 := hn
  conv => whnf
  repeat' (first
    | (refine NilG.mk fun bn hbn => ?_; conv => whnf)
    | (refine Both.mk ?_ ?_ <;> conv => whnf)
    | exact trivial
    | (refine Br.mk (fun hb => ?_) (fun hb => ?_) <;> (first | (exfalso; revert hb; decide) | ((try simp only [BL] at hb) <;> (try simp only [DL] at hb) <;> conv => whnf)))
    | (refine And.intro ?_ ?_; (focus (first | exact id | exact rfl | exact trivial | (intro hg; first | exact hg | exact rfl | (simp; done) | (simp at hg ⊢; assumption)) | omega | decide | exact is2_c _ _ _ | exact is1_c _ _ | exact isS_c _ _ | exact isB_c _ _ | exact Nat.le_refl _ | assumption | exact mulLe (by decide) (by omega) | exact mulLe2 (by decide) (by omega) (by omega) | (intros; simp only [BL] at *; omega) | (intros; (try simp only [BL] at *); (try simp only [DL] at *); omega) | (intros; simp only [BL] at *; rw [wr_id (by omega) (by omega)]; omega) | (intros; simp_all; done))); conv => whnf)
    | (refine Or.inr (And.intro rfl ?_); first | (refine congrArg intV ?_) | (refine congrArg boolV ?_) | (refine tupII ?_ ?_) | (refine tupIII ?_ ?_ ?_) | (refine tupU ?_ ?_ ?_ ?_ ?_) | exact rfl))
  refine sem_loop tab_ok gamHA_ok mixed (by kernel_rfl) (O := lex) (fun i : Nat => ⟨[(8, intV i), (7, intV n), (0, .c (.sl 1 n (c1 w))), (1, .fn F [])], []⟩) (fun i => i ≤ n ∧ ∀ k, k < i → p (w k) = false) (fun i => n - i) ⟨0, [], ⟨Nat.zero_le _, fun k hk => absurd hk (Nat.not_lt_zero _)⟩, ?_⟩ fun i hi => ?_
  · refine Sub.of ?_ ?_ ?_
    repeat' (first | (refine And.intro ?_ ?_) | exact trivial | exact fun _ _ _ => hsc _ _ | (exact congrArg intV (by first | with_reducible rfl | with_reducible assumption)) | exact (rfl : AV.idsLt _ _ = true) | exact (rfl : _ = AV.ren _ (.own _)) | exact (rfl : _ = AV.ren _ (.fn _ _)) | exact (rfl : _ = AV.ren _ (.gh _)) | (exact congrArg intV (by assumption)) | (refine congrArg intV ((wr_id (by omega) (by omega)).trans (by omega))) | exact rfl | (simp only [Int.toNat_natCast, Int.toNat_zero, Nat.sub_zero, Nat.zero_add]; first | exact rfl | done) | exact all0 | exact fun h => Bool.noConfusion h | exact fun _ _ _ _ => rfl | omega)
  conv => whnf
  repeat' (first
    | (refine NilG.mk fun bn hbn => ?_; conv => whnf)
    | (refine Both.mk ?_ ?_ <;> conv => whnf)
    | exact trivial
    | (refine Br.mk (fun hb => ?_) (fun hb => ?_) <;> (first | (exfalso; revert hb; decide) | ((try simp only [BL] at hb) <;> (try simp only [DL] at hb) <;> conv => whnf)))
    | (refine And.intro ?_ ?_; (focus (first | exact id | exact rfl | exact trivial | (intro hg; first | exact hg | exact rfl | (simp; done) | (simp at hg ⊢; assumption)) | omega | decide | exact is2_c _ _ _ | exact is1_c _ _ | exact isS_c _ _ | exact isB_c _ _ | exact Nat.le_refl _ | assumption | exact mulLe (by decide) (by omega) | exact mulLe2 (by decide) (by omega) (by omega) | (intros; simp only [BL] at *; omega) | (intros; (try simp only [BL] at *); (try simp only [DL] at *); omega) | (intros; simp only [BL] at *; rw [wr_id (by omega) (by omega)]; omega) | (intros; simp_all; done))); conv => whnf)
    | (refine Or.inr (And.intro rfl ?_); first | (refine congrArg intV ?_) | (refine congrArg boolV ?_) | (refine tupII ?_ ?_) | (refine tupIII ?_ ?_ ?_) | (refine tupU ?_ ?_ ?_ ?_ ?_) | exact rfl))
  · refine CallG.mk (Fn.mono (hp _) ?_)
    rintro obs r ⟨rfl, rfl⟩
    conv => whnf
    repeat' (first
      | (refine NilG.mk fun bn hbn => ?_; conv => whnf)
      | (refine Both.mk ?_ ?_ <;> conv => whnf)
      | exact trivial
      | (refine Br.mk (fun hb => ?_) (fun hb => ?_) <;> (first | (exfalso; revert hb; decide) | ((try simp only [BL] at hb) <;> (try simp only [DL] at hb) <;> conv => whnf)))
      | (refine And.intro ?_ ?_; (focus (first | exact id | exact rfl | exact trivial | (intro hg; first | exact hg | exact rfl | (simp; done) | (simp at hg ⊢; assumption)) | omega | decide | exact is2_c _ _ _ | exact is1_c _ _ | exact isS_c _ _ | exact isB_c _ _ | exact Nat.le_refl _ | assumption | exact mulLe (by decide) (by omega) | exact mulLe2 (by decide) (by omega) (by omega) | (intros; simp only [BL] at *; omega) | (intros; (try simp only [BL] at *); (try simp only [DL] at *); omega) | (intros; simp only [BL] at *; rw [wr_id (by omega) (by omega)]; omega) | (intros; simp_all; done))); conv => whnf)
      | (refine Or.inr (And.intro rfl ?_); first | (refine congrArg intV ?_) | (refine congrArg boolV ?_) | (refine tupII ?_ ?_) | (refine tupIII ?_ ?_ ?_) | (refine tupU ?_ ?_ ?_ ?_ ?_) | exact rfl))
    · exact (fidx_at (b := fun k => p (w k)) hi.2 hb (by omega)).symm
    · refine ⟨i + 1, [], ⟨by omega, fun k hk => by rcases Nat.lt_succ_iff_lt_or_eq.1 hk with h | rfl <;> first | exact hi.2 k h | exact hb⟩, by omega, ?_⟩
      refine Sub.of ?_ ?_ ?_
      repeat' (first | (refine And.intro ?_ ?_) | exact trivial | exact fun _ _ _ => hsc _ _ | (exact congrArg intV (by first | with_reducible rfl | with_reducible assumption)) | exact (rfl : AV.idsLt _ _ = true) | exact (rfl : _ = AV.ren _ (.own _)) | exact (rfl : _ = AV.ren _ (.fn _ _)) | exact (rfl : _ = AV.ren _ (.gh _)) | (exact congrArg intV (by assumption)) | (refine congrArg intV ((wr_id (by omega) (by omega)).trans (by omega))) | exact rfl | (simp only [Int.toNat_natCast, Int.toNat_zero, Nat.sub_zero, Nat.zero_add]; first | exact rfl | done) | exact all0 | exact fun h => Bool.noConfusion h | exact fun _ _ _ _ => rfl | omega)
  · obtain rfl : i = n := by omega
    exact (fidx_none (b := fun k => p (w k)) hi.2).symm
theorem hCont (hp : ∀ x, Fn1 Try.prog F [intV x] (boolV (p x))) (n : Nat) (w : Nat → Int) (hn : n ≤ maxLen) : Fn1 Try.prog 81 [.c (.sl 1 n (c1 w)), .fn F []] (boolV (decide (fidx (fun k => p (w k)) n ≥ 0))) := by
  refine fn_of_wpx (O := lex) tab_ok gamHA_ok mixed Try.func81 (by kernel_rfl) rfl rfl rfl (by simp [Try.ntmps81]) (by kernel_rfl) ?_
  conv => whnf
  repeat' (first
    | (refine NilG.mk fun bn hbn => ?_; conv => whnf)
    | (refine Both.mk ?_ ?_ <;> conv => whnf)
    | exact trivial
    | (refine Br.mk (fun hb => ?_) (fun hb => ?_) <;> (first | (exfalso; revert hb; decide) | ((try simp only [BL] at hb) <;> (try simp only [DL] at hb) <;> conv => whnf)))
    | (refine And.intro ?_ ?_; (focus (first | exact id | exact rfl | exact trivial | (intro hg; first | exact hg | exact rfl | (simp; done) | (simp at hg ⊢; assumption)) | omega | decide | exact is2_c _ _ _ | exact is1_c _ _ | exact isS_c _ _ | exact isB_c _ _ | exact Nat.le_refl _ | assumption | exact mulLe (by decide) (by omega) | exact mulLe2 (by decide) (by omega) (by omega) | (intros; simp only [BL] at *; omega) | (intros; (try simp only [BL] at *); (try simp only [DL] at *); omega) | (intros; simp only [BL] at *; rw [wr_id (by omega) (by omega)]; omega) | (intros; simp_all; done))); conv => whnf)
    | (refine Or.inr (And.intro rfl ?_); first | (refine congrArg intV ?_) | (refine congrArg boolV ?_) | (refine tupII ?_ ?_) | (refine tupIII ?_ ?_ ?_) | (refine tupU ?_ ?_ ?_ ?_ ?_) | exact rfl))
  refine CallG.mk (Fn.mono (hIdx hp n w hn) ?_)
  rintro obs r ⟨rfl, rfl⟩
  conv => whnf
  repeat' (first
    | (refine NilG.mk fun bn hbn => ?_; conv => whnf)
    | (refine Both.mk ?_ ?_ <;> conv => whnf)
    | exact trivial
    | (refine Br.mk (fun hb => ?_) (fun hb => ?_) <;> (first | (exfalso; revert hb; decide) | ((try simp only [BL] at hb) <;> (try simp only [DL] at hb) <;> conv => whnf)))
    | (refine And.intro ?_ ?_; (focus (first | exact id | exact rfl | exact trivial | (intro hg; first | exact hg | exact rfl | (simp; done) | (simp at hg ⊢; assumption)) | omega | decide | exact is2_c _ _ _ | exact is1_c _ _ | exact isS_c _ _ | exact isB_c _ _ | exact Nat.le_refl _ | assumption | exact mulLe (by decide) (by omega) | exact mulLe2 (by decide) (by omega) (by omega) | (intros; simp only [BL] at *; omega) | (intros; (try simp only [BL] at *); (try simp only [DL] at *); omega) | (intros; simp only [BL] at *; rw [wr_id (by omega) (by omega)]; omega) | (intros; simp_all; done))); conv => whnf)
    | (refine Or.inr (And.intro rfl ?_); first | (refine congrArg intV ?_) | (refine congrArg boolV ?_) | (refine tupII ?_ ?_) | (refine tupIII ?_ ?_ ?_) | (refine tupU ?_ ?_ ?_ ?_ ?_) | exact rfl))
  · rfl
end
def hcE (n : Nat) (w : Nat → Int) : Int := if 24 < n then 2 else if fidx (fun k => badW (w k)) n ≥ 0 then 4 else 0
theorem hcE_zero {n : Nat} {w : Nat → Int} (h : hcE n w = 0) : n ≤ 24 ∧ ∀ k, k < n → -100000 ≤ w k ∧ w k ≤ 100000 := by
  unfold hcE at h
  split at h
  · cases h
  · split at h
    · cases h
    · rename_i h2
      refine ⟨by omega, fun k hk => ?_⟩
      have := fidx_neg h2 k hk
      simp only [badW, inB, BL] at this
      omega
theorem hCheck (n : Nat) (w : Nat → Int) (hn : n ≤ maxLen) : Fn1 Try.prog 36 [.c (.sl 1 n (c1 w))] (intV (hcE n w)) := by
  refine fn_of_wpx (O := lex) tab_ok gamHA_ok mixed Try.func36 (by kernel_rfl) rfl rfl rfl (by simp [Try.ntmps36]) (by kernel_rfl) ?_
  have hn' : n ≤ 9223372036854775807 := hn
  conv => whnf
  repeat' (first
    | (refine NilG.mk fun bn hbn => ?_; conv => whnf)
    | (refine Both.mk ?_ ?_ <;> conv => whnf)
    | exact trivial
    | (refine Br.mk (fun hb => ?_) (fun hb => ?_) <;> (first | (exfalso; revert hb; decide) | ((try simp only [BL] at hb) <;> (try simp only [DL] at hb) <;> conv => whnf)))
    | (refine And.intro ?_ ?_; (focus (first | exact id | exact rfl | exact trivial | (intro hg; first | exact hg | exact rfl | (simp; done) | (simp at hg ⊢; assumption)) | omega | decide | exact is2_c _ _ _ | exact is1_c _ _ | exact isS_c _ _ | exact isB_c _ _ | exact Nat.le_refl _ | assumption | exact mulLe (by decide) (by omega) | exact mulLe2 (by decide) (by omega) (by omega) | (intros; simp only [BL] at *; omega) | (intros; (try simp only [BL] at *); (try simp only [DL] at *); omega) | (intros; simp only [BL] at *; rw [wr_id (by omega) (by omega)]; omega) | (intros; simp_all; done))); conv => whnf)
    | (refine Or.inr (And.intro rfl ?_); first | (refine congrArg intV ?_) | (refine congrArg boolV ?_) | (refine tupII ?_ ?_) | (refine tupIII ?_ ?_ ?_) | (refine tupU ?_ ?_ ?_ ?_ ?_) | exact rfl))
  · unfold hcE; rw [if_pos (by omega)]
  refine CallG.mk (Fn.mono (hCont hBad n w hn) ?_)
  rintro obs r ⟨rfl, rfl⟩
  conv => whnf
  repeat' (first
    | (refine NilG.mk fun bn hbn => ?_; conv => whnf)
    | (refine Both.mk ?_ ?_ <;> conv => whnf)
    | exact trivial
    | (refine Br.mk (fun hb => ?_) (fun hb => ?_) <;> (first | (exfalso; revert hb; decide) | ((try simp only [BL] at hb) <;> (try simp only [DL] at hb) <;> conv => whnf)))
    | (refine And.intro ?_ ?_; (focus (first | exact id | exact rfl | exact trivial | (intro hg; first | exact hg | exact rfl | (simp; done) | (simp at hg ⊢; assumption)) | omega | decide | exact is2_c _ _ _ | exact is1_c _ _ | exact isS_c _ _ | exact isB_c _ _ | exact Nat.le_refl _ | assumption | exact mulLe (by decide) (by omega) | exact mulLe2 (by decide) (by omega) (by omega) | (intros; simp only [BL] at *; omega) | (intros; (try simp only [BL] at *); (try simp only [DL] at *); omega) | (intros; simp only [BL] at *; rw [wr_id (by omega) (by omega)]; omega) | (intros; simp_all; done))); conv => whnf)
    | (refine Or.inr (And.intro rfl ?_); first | (refine congrArg intV ?_) | (refine congrArg boolV ?_) | (refine tupII ?_ ?_) | (refine tupIII ?_ ?_ ?_) | (refine tupU ?_ ?_ ?_ ?_ ?_) | exact rfl))
  · unfold hcE; rw [if_neg (by omega), if_pos (by omega)]
  · unfold hcE; rw [if_neg (by omega), if_neg (by omega)]

/-- the sums of every 'size' numbers: how many there are after i numbers, and which -/
def smN (size : Int) : Nat → Nat
  | 0 => 0
  | i + 1 => if Int.tmod i size = 0 then smN size i + 1 else smN size i
def smF (size : Int) (w : Nat → Int) : Nat → Nat → Int
  | 0, _ => 0
  | i + 1, j => (if j < smN size i then smF size w i j else 0) + (if j + 1 = smN size (i + 1) then w i else 0)
theorem smN_le (size : Int) : ∀ i, smN size i ≤ i ∧ (0 < i → 0 < smN size i)
  | 0 => by simp [smN]
  | i + 1 => by
    have := smN_le size i
    simp only [smN]
    split
    · omega
    · rename_i h
      have : i ≠ 0 := fun e => h (by subst e; simp)
      omega
theorem smF_le {size : Int} {w : Nat → Int} (i : Nat) (h : ∀ k, k < i → -100000 ≤ w k ∧ w k ≤ 100000) (j : Nat) : -100000 * (i : Int) ≤ smF size w i j ∧ smF size w i j ≤ 100000 * i := by
  induction i with
  | zero => simp [smF]
  | succ i ih =>
    have h1 := ih (fun k hk => h k (by omega))
    have h2 := h i (by omega)
    simp only [smF]
    rw [Int.natCast_succ]
    split <;> split <;> omega
def suE (n : Nat) (w : Nat → Int) (size : Int) : Int := if hcE n w ≠ 0 then hcE n w else if size < 1 ∨ 24 < size then 1 else 0
def sHc : List AV → Sd × AV
  | [.c (.sl 1 n f)] => (.p (is1 n f ∧ n ≤ maxLen), intV (hcE n (d0 f)))
  | _ => (.p False, .top)
def gamHB : Gam := fun f => match f with
  | 80 => some (s3 fun n a b => !inB n a b)
  | 22 => some (s3 inB)
  | 36 => some sHc
  | _ => none
theorem gamHB_ok : GOk Try.prog gamHB := fun f g h => by
  unfold gamHB at h
  split at h
  · injection h with h; subst h; exact s3_ok hOut
  · injection h with h; subst h; exact s3_ok in3
  · injection h with h; subst h
    intro args hs _
    unfold sHc at hs ⊢
    split at hs
    · exact (hCheck _ _ hs.2).le (Le.cons (Le1.sl hs.1) Le.nil)
    · exact hs.elim
  · cases h

def suK (n : Nat) (w : Nat → Int) (size : Int) (obs : List OB) (v : AV) : Prop :=
  obs = [] ∧ ((suE n w size ≠ 0 ∧ v = .tup [.c (.v (.slice none 0 0)), intV (suE n w size)]) ∨ (suE n w size = 0 ∧ v = .tup [.c (.sl 1 (smN size n) (c1 (smF size w n))), intV 0]))
theorem hSums (n : Nat) (w : Nat → Int) (size : Int) (hn : n ≤ maxLen) : Fn Try.prog 35 [.c (.sl 1 n (c1 w)), intV size] (suK n w size) := by
  refine fn_of_wpx (O := lex) tab_ok gamHB_ok mixed Try.func35 (by kernel_rfl) rfl rfl rfl (by simp [Try.ntmps35]) (by kernel_rfl) ?_
  have hn' : n ≤ 9223372036854775807 := hn
  conv => whnf
  repeat' (first
    | (refine NilG.mk fun bn hbn => ?_; conv => whnf)
    | (refine Both.mk ?_ ?_ <;> conv => whnf)
    | exact trivial
    | (refine Br.mk (fun hb => ?_) (fun hb => ?_) <;> (first | (exfalso; revert hb; decide) | ((try simp only [BL] at hb) <;> (try simp only [DL] at hb) <;> conv => whnf)))
    | (refine And.intro ?_ ?_; (focus (first | exact id | exact rfl | exact trivial | (intro hg; first | exact hg | exact rfl | (simp; done) | (simp at hg ⊢; assumption)) | omega | decide | exact is2_c _ _ _ | exact is1_c _ _ | exact isS_c _ _ | exact isB_c _ _ | exact Nat.le_refl _ | assumption | exact mulLe (by decide) (by omega) | exact mulLe2 (by decide) (by omega) (by omega) | (intros; simp only [BL] at *; omega) | (intros; (try simp only [BL] at *); (try simp only [DL] at *); omega) | (intros; simp only [BL] at *; rw [wr_id (by omega) (by omega)]; omega) | (intros; simp_all; done) | exact ⟨is1_c _ _, hn⟩)); conv => whnf)
    | (refine Or.inr (And.intro rfl ?_); first | (refine congrArg intV ?_) | (refine congrArg boolV ?_) | (refine tupII ?_ ?_) | (refine tupIII ?_ ?_ ?_) | (refine tupU ?_ ?_ ?_ ?_ ?_) | exact rfl))
  · have h0 : ¬ hcE n w = 0 := hb
    have hE : suE n w size = hcE n w := if_pos h0
    exact .inr ⟨rfl, .inl ⟨by rw [hE]; exact h0, by rw [hE]; rfl⟩⟩
  · rename_i h1
    have h1 : hcE n w = 0 := h1
    have h2 : size < 1 ∨ 24 < size := by
      have := hb
      omega
    have hE : suE n w size = 1 := by unfold suE; rw [if_neg (fun h => h h1), if_pos h2]
    exact .inr ⟨rfl, .inl ⟨by rw [hE]; decide, by rw [hE]; rfl⟩⟩
  rename_i h1
  have h1 : hcE n w = 0 := h1
  have h2 : ¬(size < 1 ∨ 24 < size) := by
    have := hb
    omega
  have hE : suE n w size = 0 := by unfold suE; rw [if_neg (fun h => h h1), if_neg h2]
  clear hb
  obtain ⟨hn24, hw⟩ := hcE_zero h1
  refine LoopG.nil 7 3 1 rfl ?_
  refine sem_loop tab_ok gamHB_ok mixed (by kernel_rfl) (O := lex) (fun i : Nat => ⟨[(1, intV size), (7, .own 0), (17, .c (.sl 1 n (c1 w))), (18, intV n), (19, intV i)], [.row 3 1 (smN size i) false (c1 (smF size w i))]⟩) (fun i => i ≤ n) (fun i => n - i) ⟨0, [?_], Nat.zero_le _, ?_⟩ fun i hi => ?_
  rotate_left 1
  · refine Sub.of ?_ ?_ ?_
    repeat' (first | (refine And.intro ?_ ?_) | exact trivial | exact fun _ _ _ => hsc _ _ | (exact congrArg intV (by first | with_reducible rfl | with_reducible assumption)) | exact (rfl : AV.idsLt _ _ = true) | exact (rfl : _ = AV.ren _ (.own _)) | exact (rfl : _ = AV.ren _ (.fn _ _)) | exact (rfl : _ = AV.ren _ (.gh _)) | (exact congrArg intV (by assumption)) | (refine congrArg intV ((wr_id (by omega) (by omega)).trans (by omega))) | exact rfl | (simp only [Int.toNat_natCast, Int.toNat_zero, Nat.sub_zero, Nat.zero_add]; first | exact rfl | done) | exact all0 | exact fun h => Bool.noConfusion h | exact fun _ _ _ _ => rfl | omega)
  have hsl := smN_le size i
  have hsl1 := smN_le size (i + 1)
  have hsv := smF_le (size := size) i (fun k hk => hw k (by omega))
  have hwi := fun h : i < n => hw i h
  have hsn : smN size (i + 1) = if Int.tmod i size = 0 then smN size i + 1 else smN size i := rfl
  have hsf : ∀ j, smF size w (i + 1) j = (if j < smN size i then smF size w i j else 0) + (if j + 1 = smN size (i + 1) then w i else 0) := fun _ => rfl
  have hwA : IntKind.i64.wrap (((smN size i + 1 : Nat) : Int) - 1) = (smN size i : Nat) := (wr_id (by omega) (by omega)).trans (by omega)
  have hwB : 0 < smN size i → IntKind.i64.wrap (((smN size i : Nat) : Int) - 1) = (smN size i - 1 : Nat) := fun h => (wr_id (by omega) (by omega)).trans (by omega)
  conv => whnf
  repeat' (first
    | (refine NilG.mk fun bn hbn => ?_; conv => whnf)
    | (refine Both.mk ?_ ?_ <;> conv => whnf)
    | exact trivial
    | (refine Br.mk (fun hb => ?_) (fun hb => ?_) <;> (first | (exfalso; revert hb; decide) | ((try simp only [BL] at hb) <;> (try simp only [DL] at hb) <;> conv => whnf)))
    | (refine And.intro ?_ ?_; (focus (first | exact id | exact rfl | exact trivial | (intro hg; first | exact hg | exact rfl | (simp; done) | (simp at hg ⊢; assumption)) | omega | decide | exact is2_c _ _ _ | exact is1_c _ _ | exact isS_c _ _ | exact isB_c _ _ | exact Nat.le_refl _ | assumption | exact mulLe (by decide) (by omega) | exact mulLe2 (by decide) (by omega) (by omega) | (intros; simp only [BL] at *; omega) | (intros; (try simp only [BL] at *); (try simp only [DL] at *); omega) | (intros; simp only [BL] at *; rw [wr_id (by omega) (by omega)]; omega) | (intros; simp_all; done))); conv => whnf)
    | (refine Or.inr (And.intro rfl ?_); first | (refine congrArg intV ?_) | (refine congrArg boolV ?_) | (refine tupII ?_ ?_) | (refine tupIII ?_ ?_ ?_) | (refine tupU ?_ ?_ ?_ ?_ ?_) | exact rfl))
  · have hin : i < n := by omega
    have hs1 : smN size (i + 1) = smN size i + 1 := by rw [hsn, if_pos hb]
    rw [hwA]
    refine And.intro ⟨rfl, by rw [Int.toNat_natCast]; omega, by decide⟩ ?_
    dsimp only
    rw [if_neg (show ¬ ((smN size i : Nat) : Int).toNat < smN size i by rw [Int.toNat_natCast]; omega), show ((smN size i : Nat) : Int).toNat - smN size i = 0 by rw [Int.toNat_natCast]; omega]
    conv => whnf
    repeat' (first
      | (refine NilG.mk fun bn hbn => ?_; conv => whnf)
      | (refine Both.mk ?_ ?_ <;> conv => whnf)
      | exact trivial
      | (refine Br.mk (fun hb => ?_) (fun hb => ?_) <;> (first | (exfalso; revert hb; decide) | ((try simp only [BL] at hb) <;> (try simp only [DL] at hb) <;> conv => whnf)))
      | (refine And.intro ?_ ?_; (focus (first | exact id | exact rfl | exact trivial | (intro hg; first | exact hg | exact rfl | (simp; done) | (simp at hg ⊢; assumption)) | omega | decide | exact is2_c _ _ _ | exact is1_c _ _ | exact isS_c _ _ | exact isB_c _ _ | exact Nat.le_refl _ | assumption | exact mulLe (by decide) (by omega) | exact mulLe2 (by decide) (by omega) (by omega) | (intros; simp only [BL] at *; omega) | (intros; (try simp only [BL] at *); (try simp only [DL] at *); omega) | (intros; simp only [BL] at *; rw [wr_id (by omega) (by omega)]; omega) | (intros; simp_all; done) | (refine ⟨rfl, ?_⟩; decide) | (rw [Int.toNat_natCast]; omega))); conv => whnf)
      | (refine Or.inr (And.intro rfl ?_); first | (refine congrArg intV ?_) | (refine congrArg boolV ?_) | (refine tupII ?_ ?_) | (refine tupIII ?_ ?_ ?_) | (refine tupU ?_ ?_ ?_ ?_ ?_) | exact rfl))
    · refine ⟨i + 1, [?_], by omega, by omega, ?_⟩
      rotate_left 1
      refine Sub.of ?_ ?_ ?_
      repeat' (first | (refine And.intro ?_ ?_) | exact trivial | exact fun _ _ _ => hsc _ _ | (exact congrArg intV (by first | with_reducible rfl | with_reducible assumption)) | exact (rfl : AV.idsLt _ _ = true) | exact (rfl : _ = AV.ren _ (.own _)) | exact (rfl : _ = AV.ren _ (.fn _ _)) | exact (rfl : _ = AV.ren _ (.gh _)) | (exact congrArg intV (by assumption)) | (refine congrArg intV ((wr_id (by omega) (by omega)).trans (by omega))) | exact rfl | (simp only [Int.toNat_natCast, Int.toNat_zero, Nat.sub_zero, Nat.zero_add]; first | exact rfl | done) | exact all0 | exact fun h => Bool.noConfusion h | exact fun _ _ _ _ => rfl | omega)
      intro a ha b hb1
      have hb1 : b < 1 := hb1
      obtain rfl : b = 0 := by omega
      have hw' := hwi hin
      dsimp only
      simp only [Int.toNat_natCast]
      show _ = L.v (Value.int IntKind.i64 (smF size w (i + 1) a))
      rw [hsf, hs1, wr_id (by omega) (by omega)]
      by_cases he : a = smN size i
      · subst he
        rw [if_pos rfl, if_neg (Nat.lt_irrefl (smN size i)), if_pos rfl]
        show L.v (Value.int IntKind.i64 (0 + w i)) = _
        rw [if_neg (Nat.lt_irrefl _)]
      · rw [if_neg he, if_pos (by omega), if_pos (by omega), if_neg (by omega), Int.add_zero]; rfl
  · have hin : i < n := by omega
    have hp : 0 < smN size i := hsl.2 (Nat.pos_of_ne_zero fun e => hb (by subst e; simp))
    have hs1 : smN size (i + 1) = smN size i := by rw [hsn, if_neg hb]
    rw [hwB hp]
    refine And.intro (by omega) ?_
    conv => whnf
    repeat' (first
      | (refine NilG.mk fun bn hbn => ?_; conv => whnf)
      | (refine Both.mk ?_ ?_ <;> conv => whnf)
      | exact trivial
      | (refine Br.mk (fun hb => ?_) (fun hb => ?_) <;> (first | (exfalso; revert hb; decide) | ((try simp only [BL] at hb) <;> (try simp only [DL] at hb) <;> conv => whnf)))
      | (refine And.intro ?_ ?_; (focus (first | exact id | exact rfl | exact trivial | (intro hg; first | exact hg | exact rfl | (simp; done) | (simp at hg ⊢; assumption)) | omega | decide | exact is2_c _ _ _ | exact is1_c _ _ | exact isS_c _ _ | exact isB_c _ _ | exact Nat.le_refl _ | assumption | exact mulLe (by decide) (by omega) | exact mulLe2 (by decide) (by omega) (by omega) | (intros; simp only [BL] at *; omega) | (intros; (try simp only [BL] at *); (try simp only [DL] at *); omega) | (intros; simp only [BL] at *; rw [wr_id (by omega) (by omega)]; omega) | (intros; simp_all; done) | (refine ⟨rfl, ?_, by decide⟩; rw [Int.toNat_natCast]; omega) | (rw [Int.toNat_natCast]; omega))); conv => whnf)
      | (refine Or.inr (And.intro rfl ?_); first | (refine congrArg intV ?_) | (refine congrArg boolV ?_) | (refine tupII ?_ ?_) | (refine tupIII ?_ ?_ ?_) | (refine tupU ?_ ?_ ?_ ?_ ?_) | exact rfl))
    · refine ⟨i + 1, [?_], by omega, by omega, ?_⟩
      rotate_left 1
      refine Sub.of ?_ ?_ ?_
      repeat' (first | (refine And.intro ?_ ?_) | exact trivial | exact fun _ _ _ => hsc _ _ | (exact congrArg intV (by first | with_reducible rfl | with_reducible assumption)) | exact (rfl : AV.idsLt _ _ = true) | exact (rfl : _ = AV.ren _ (.own _)) | exact (rfl : _ = AV.ren _ (.fn _ _)) | exact (rfl : _ = AV.ren _ (.gh _)) | (exact congrArg intV (by assumption)) | (refine congrArg intV ((wr_id (by omega) (by omega)).trans (by omega))) | exact rfl | (simp only [Int.toNat_natCast, Int.toNat_zero, Nat.sub_zero, Nat.zero_add]; first | exact rfl | done) | exact all0 | exact fun h => Bool.noConfusion h | exact fun _ _ _ _ => rfl | omega)
      intro a ha b hb1
      obtain rfl : b = 0 := by omega
      have hw' := hwi hin
      have hv' := hsv (smN size i - 1)
      dsimp only
      simp only [Int.toNat_natCast]
      show _ = L.v (Value.int IntKind.i64 (smF size w (i + 1) a))
      rw [hsf, hs1, wr_id (by omega) (by omega)]
      by_cases he : a = smN size i - 1
      · subst he
        rw [if_pos rfl]
        show L.v (Value.int IntKind.i64 (smF size w i (smN size i - 1) + w i)) = _
        rw [if_pos ha, if_pos (show smN size i - 1 + 1 = smN size i by omega)]
      · rw [if_neg he, if_pos (by omega), if_neg (by omega), Int.add_zero]; rfl
  · have hin : i = n := by omega
    rw [hin]
    exact .inr ⟨rfl, .inr ⟨hE, rfl⟩⟩
end Go.Proofs.Ytdakikgebfphmaa
