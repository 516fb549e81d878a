/-
  The references best, Cleared, FitsPrice; auction.fitting.
-/
import Derived.Test.YtdakikgebfphmaaAucC
import Derived.Test.YtdakikgebfphmaaBlkR
namespace Go.Proofs.Ytdakikgebfphmaa
open Go.RowKit

section
variable (a : Nat → AuO) (b : Bool)
/-- the orders of one side: one block each; a buyer's price counts down -/
def aM (k : Nat) : Nat := if (a k).bu = b then 1 else 0
def aP (k : Nat) (_ : Nat) : Int := (a k).pw
def aQ (k : Nat) (_ : Nat) : Int := if b then -(a k).pr else (a k).pr
/-- an order of this side that is not filled -/
def aRoom (x : Nat → Int) (k : Nat) : Prop := (a k).bu = b ∧ x k ≠ (a k).pw
instance (x : Nat → Int) : DecidablePred (aRoom a b x) := fun k => by unfold aRoom; infer_instance
end
theorem aQ_at {a : Nat → AuO} {b : Bool} {n e : Nat} : bSz (aM a b) (aQ a b) n e = if b then -(a (own (aM a b) n e)).pr else (a (own (aM a b) n e)).pr := rfl
theorem aN_le (a : Nat → AuO) (b : Bool) : ∀ n, oN (aM a b) n ≤ n
  | 0 => Nat.le_refl _
  | n + 1 => by
    have := aN_le a b n
    simp only [oN, aM]
    split <;> omega
def gamA3 : Gam := fun _ => none
theorem gamA3_ok : GOk Try.prog gamA3 := fun _ _ h => by cases h
theorem aucBest (a : Nat → AuO) (b : Bool) (n : Nat) (x : Nat → Int) (hn : n ≤ 32) : Fn1 Try.prog 99 [.c (.sl 4 n (cAo a)), .c (.sl 1 n (c1 x)), boolV b] (intV (amC (aRoom a b x) (fun k => aQ a b k 0) n)) := by
  refine fn_of_wpx (O := lex) tab_ok gamA3_ok mixed Try.func99 (by kernel_rfl) rfl rfl rfl (by simp [Try.ntmps99]) (by kernel_rfl) ?_
  conv => whnf
  repeat' (first
    | (refine NilG.mk fun bn hbn => ?_; conv => whnf)
    | (refine Both.mk ?_ ?_ <;> conv => whnf)
    | exact trivial
    | (refine Br.mk (fun hb => ?_) (fun hb => ?_) <;> (first | (exfalso; revert hb; decide) | ((try simp only [BL] at hb) <;> (try simp only [DL] at hb) <;> conv => whnf)))
    | (refine And.intro ?_ ?_; (focus (first | exact id | exact rfl | exact trivial | (intro hg; first | exact hg | exact rfl | (simp; done) | (simp at hg ⊢; assumption)) | omega | decide | exact is2_c _ _ _ | exact is1_c _ _ | exact isS_c _ _ | exact isB_c _ _ | exact Nat.le_refl _ | assumption | exact mulLe (by decide) (by omega) | exact mulLe2 (by decide) (by omega) (by omega) | (intros; simp only [BL] at *; omega) | (intros; (try simp only [BL] at *); (try simp only [DL] at *); omega) | (intros; simp only [BL] at *; rw [wr_id (by omega) (by omega)]; omega) | (intro h1 h2; exact Bool.and_eq_true_iff.2 ⟨h1, h2⟩) | (intros; simp_all; done))); conv => whnf)
    | (refine Or.inr (And.intro rfl ?_); first | (refine congrArg intV ?_) | (refine congrArg boolV ?_) | (refine tupII ?_ ?_) | (refine tupIII ?_ ?_ ?_) | (refine tupU ?_ ?_ ?_ ?_ ?_) | exact rfl))
  refine sem_loop tab_ok gamA3_ok mixed (by kernel_rfl) (O := lex) (fun i : Nat => ⟨[(0, .c (.sl 4 n (cAo a))), (1, .c (.sl 1 n (c1 x))), (2, boolV b), (7, intV (amC (aRoom a b x) (fun k => aQ a b k 0) i)), (10, .c (.sl 4 n (cAo a))), (11, intV n), (12, intV i)], []⟩) (fun i => i ≤ n) (fun i => n - i) ⟨0, [], Nat.zero_le _, ?_⟩ fun i hi => ?_
  · refine Sub.of ?_ ?_ ?_
    repeat' (first | (refine And.intro ?_ ?_) | exact trivial | exact fun _ _ _ => hsc _ _ | (exact congrArg intV (by first | with_reducible rfl | with_reducible assumption)) | exact (rfl : AV.idsLt _ _ = true) | exact (rfl : _ = AV.ren _ (.own _)) | exact (rfl : _ = AV.ren _ (.fn _ _)) | exact (rfl : _ = AV.ren _ (.gh _)) | (exact congrArg intV (by assumption)) | (refine congrArg intV ((wr_id (by omega) (by omega)).trans (by omega))) | exact rfl | (simp only [Int.toNat_natCast, Int.toNat_zero, Nat.sub_zero, Nat.zero_add]; first | exact rfl | done) | exact all0 | exact fun h => Bool.noConfusion h | exact fun _ _ _ _ => rfl | omega)
  have ham := amC_b (aRoom a b x) (fun k => aQ a b k 0) i
  have hst : amC (aRoom a b x) (fun k => aQ a b k 0) (i + 1) = if aRoom a b x i ∧ (amC (aRoom a b x) (fun k => aQ a b k 0) i < 0 ∨ aQ a b i 0 < aQ a b (amC (aRoom a b x) (fun k => aQ a b k 0) i).toNat 0) then (i : Int) else amC (aRoom a b x) (fun k => aQ a b k 0) i := rfl
  generalize hA : amC (aRoom a b x) (fun k => aQ a b k 0) i = A at *
  conv => whnf
  repeat' (first
    | (refine NilG.mk fun bn hbn => ?_; conv => whnf)
    | (refine Both.mk ?_ ?_ <;> conv => whnf)
    | exact trivial
    | (refine Br.mk (fun hb => ?_) (fun hb => ?_) <;> (first | (exfalso; revert hb; decide) | ((try simp only [BL] at hb) <;> (try simp only [DL] at hb) <;> conv => whnf)))
    | (refine And.intro ?_ ?_; (focus (first | exact id | exact rfl | exact trivial | (intro hg; first | exact hg | exact rfl | (simp; done) | (simp at hg ⊢; assumption)) | omega | decide | exact is2_c _ _ _ | exact is1_c _ _ | exact isS_c _ _ | exact isB_c _ _ | exact Nat.le_refl _ | assumption | exact mulLe (by decide) (by omega) | exact mulLe2 (by decide) (by omega) (by omega) | (intros; simp only [BL] at *; omega) | (intros; (try simp only [BL] at *); (try simp only [DL] at *); omega) | (intros; simp only [BL] at *; rw [wr_id (by omega) (by omega)]; omega) | (intro h1 h2; exact Bool.and_eq_true_iff.2 ⟨h1, h2⟩) | (intros; simp_all; done))); conv => whnf)
    | (refine Or.inr (And.intro rfl ?_); first | (refine congrArg intV ?_) | (refine congrArg boolV ?_) | (refine tupII ?_ ?_) | (refine tupIII ?_ ?_ ?_) | (refine tupU ?_ ?_ ?_ ?_ ?_) | exact rfl))
  · have e1 : A = amC (aRoom a b x) (fun k => aQ a b k 0) (i + 1) := by
      rw [hst, if_neg]
      rintro ⟨⟨h1, h2⟩, _⟩
      rcases hb with hb | hb
      · exact hb h1
      · exact h2 hb
    refine ⟨i + 1, [], by omega, by omega, ?_⟩
    refine Sub.of ?_ ?_ ?_
    repeat' (first | (refine And.intro ?_ ?_) | exact trivial | exact fun _ _ _ => hsc _ _ | (exact congrArg intV (by first | with_reducible rfl | with_reducible assumption)) | exact (rfl : AV.idsLt _ _ = true) | exact (rfl : _ = AV.ren _ (.own _)) | exact (rfl : _ = AV.ren _ (.fn _ _)) | exact (rfl : _ = AV.ren _ (.gh _)) | (exact congrArg intV (by assumption)) | (refine congrArg intV ((wr_id (by omega) (by omega)).trans (by omega))) | exact rfl | (simp only [Int.toNat_natCast, Int.toNat_zero, Nat.sub_zero, Nat.zero_add]; first | exact rfl | done) | exact all0 | exact fun h => Bool.noConfusion h | exact fun _ _ _ _ => rfl | omega)
  · have e1 : (i : Int) = amC (aRoom a b x) (fun k => aQ a b k 0) (i + 1) := by
      rename_i hr
      have hc : A < 0 ∨ aQ a b i 0 < aQ a b A.toNat 0 := by
        unfold aQ
        rcases hb with (hb | ⟨hb1, hb⟩) | ⟨hb1, hb⟩
        · exact .inl hb
        · rw [hb1]; simp only [if_true]; exact .inr (by omega)
        · rw [hb1]; simp only [Bool.false_eq_true, if_false]; exact .inr (by omega)
      rw [hst, if_pos ⟨hr, hc⟩]
    refine ⟨i + 1, [], by omega, by omega, ?_⟩
    refine Sub.of ?_ ?_ ?_
    repeat' (first | (refine And.intro ?_ ?_) | exact trivial | exact fun _ _ _ => hsc _ _ | (exact congrArg intV (by first | with_reducible rfl | with_reducible assumption)) | exact (rfl : AV.idsLt _ _ = true) | exact (rfl : _ = AV.ren _ (.own _)) | exact (rfl : _ = AV.ren _ (.fn _ _)) | exact (rfl : _ = AV.ren _ (.gh _)) | (exact congrArg intV (by assumption)) | (refine congrArg intV ((wr_id (by omega) (by omega)).trans (by omega))) | exact rfl | (simp only [Int.toNat_natCast, Int.toNat_zero, Nat.sub_zero, Nat.zero_add]; first | exact rfl | done) | exact all0 | exact fun h => Bool.noConfusion h | exact fun _ _ _ _ => rfl | omega)
  · have e1 : A = amC (aRoom a b x) (fun k => aQ a b k 0) (i + 1) := by
      rw [hst, if_neg]
      rintro ⟨_, h2⟩
      unfold aQ at h2
      obtain ⟨⟨hb1, hb2⟩, hb3⟩ := hb
      rcases h2 with h2 | h2
      · exact hb1 h2
      · cases b
        · simp only [Bool.false_eq_true, if_false] at h2
          rcases hb3 with h | h
          · cases h
          · omega
        · simp only [if_true] at h2
          rcases hb2 with h | h
          · cases h
          · omega
    refine ⟨i + 1, [], by omega, by omega, ?_⟩
    refine Sub.of ?_ ?_ ?_
    repeat' (first | (refine And.intro ?_ ?_) | exact trivial | exact fun _ _ _ => hsc _ _ | (exact congrArg intV (by first | with_reducible rfl | with_reducible assumption)) | exact (rfl : AV.idsLt _ _ = true) | exact (rfl : _ = AV.ren _ (.own _)) | exact (rfl : _ = AV.ren _ (.fn _ _)) | exact (rfl : _ = AV.ren _ (.gh _)) | (exact congrArg intV (by assumption)) | (refine congrArg intV ((wr_id (by omega) (by omega)).trans (by omega))) | exact rfl | (simp only [Int.toNat_natCast, Int.toNat_zero, Nat.sub_zero, Nat.zero_add]; first | exact rfl | done) | exact all0 | exact fun h => Bool.noConfusion h | exact fun _ _ _ _ => rfl | omega)
  · rw [← hA, show i = n by omega]
/-- what one side has taken of order k when t units are cleared -/
abbrev aX (a : Nat → AuO) (b : Bool) (n : Nat) (π : Nat → Nat) (t : Int) (k : Nat) : Int := bX (aM a b) (aP a) n π t k (oN (aM a b) n)
/-- what a side has -/
def aAll (a : Nat → AuO) (b : Bool) (n : Nat) : Int := S (fun k => S (aP a k) (aM a b k)) n
theorem aBlks {a : Nat → AuO} {b : Bool} {n : Nat} {π : Nat → Nat} (hp : ∀ k, k < n → 1 ≤ (a k).pw ∧ -1000000 ≤ (a k).pr ∧ (a k).pr ≤ 1000000) (hs : Sorted (bSz (aM a b) (aQ a b) n) π (oN (aM a b) n)) : Blks2 (aM a b) (aP a) (aQ a b) n π :=
  ⟨fun k hk j hj => by
    have : aM a b k ≤ 1 := by unfold aM; split <;> omega
    omega, fun k hk j _ => (hp k hk).1, fun k hk j _ => by
    have := hp k hk
    unfold aQ
    split <;> omega, hs⟩
theorem aX_b {a : Nat → AuO} {b : Bool} {n : Nat} {π : Nat → Nat} (hp : ∀ k, k < n → 1 ≤ (a k).pw ∧ -1000000 ≤ (a k).pr ∧ (a k).pr ≤ 1000000) (hs : Sorted (bSz (aM a b) (aQ a b) n) π (oN (aM a b) n)) {t : Int} (h0 : 0 ≤ t) (h1 : t ≤ aAll a b n) :
    ∀ k, k < n → 0 ≤ aX a b n π t k ∧ aX a b n π t k ≤ (a k).pw ∧ ((a k).bu ≠ b → aX a b n π t k = 0) := fun k hk => by
  have hb := aBlks hp hs
  obtain ⟨B, hB⟩ := hb.at h0 h1
  obtain ⟨J, r, f1, f2, _⟩ := hb.fill hB hk
  have g2 := f1.nn
  have hpk := (hp k hk).1
  show 0 ≤ bX (aM a b) (aP a) n π t k (oN (aM a b) n) ∧ bX (aM a b) (aP a) n π t k (oN (aM a b) n) ≤ (a k).pw ∧ ((a k).bu ≠ b → bX (aM a b) (aP a) n π t k (oN (aM a b) n) = 0)
  rw [f2]
  have hm : aM a b k = if (a k).bu = b then 1 else 0 := rfl
  have hle := f1.le
  by_cases hc : (a k).bu = b
  · rw [if_pos hc] at hm
    rw [hm] at f1 hle
    rcases Nat.eq_zero_or_pos J with e | e
    · have h5 := f1.lt (by omega)
      subst e
      have e0 : S (aP a k) 0 = 0 := rfl
      have e1 : aP a k 0 = (a k).pw := rfl
      exact ⟨by omega, by omega, fun h => absurd hc h⟩
    · obtain rfl : J = 1 := by omega
      have h5 := f1.end' rfl
      have e1 : S (aP a k) 1 = 0 + (a k).pw := rfl
      exact ⟨by omega, by omega, fun h => absurd hc h⟩
  · rw [if_neg hc] at hm
    rw [hm] at f1 hle
    obtain rfl : J = 0 := by omega
    have h5 := f1.end' rfl
    have e0 : S (aP a k) 0 = 0 := rfl
    exact ⟨by omega, by omega, fun _ => by omega⟩
end Go.Proofs.Ytdakikgebfphmaa
