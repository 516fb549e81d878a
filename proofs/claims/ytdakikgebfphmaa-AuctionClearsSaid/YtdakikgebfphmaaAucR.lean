/-
  The package auction: ranked.
-/
import Derived.Test.YtdakikgebfphmaaAucB
import Derived.Test.YtdakikgebfphmaaSrt5Auc
namespace Go.Proofs.Ytdakikgebfphmaa
open Go.RowKit

/-- the places of one side, in order -/
def aIx (a : Nat → AuO) (b : Bool) (n : Nat) (e : Nat) : Int := own (aM a b) n e
def gamA2 : Gam := fun _ => none
theorem gamA2_ok : GOk Try.prog gamA2 := fun _ _ h => by cases h
theorem ranCmp0 (a : Nat → AuO) (b : Bool) (n : Nat) (i j : Nat) (hi : i < n) (hj : j < n) (hn : n ≤ 32) (hp : ∀ k, k < n → -1000000 ≤ (a k).pr ∧ (a k).pr ≤ 1000000) :
    Fn1 Try.prog 125 [intV i, intV j, .xp 1 fun k => ([bL b][0 + k]?).getD .un, .xp 1 fun k => ([L.sl 4 n (cAo a)][0 + k]?).getD .un] (intV (if b then (a j).pr - (a i).pr else (a i).pr - (a j).pr)) := by
  refine fn_of_wpx (O := lex) tab_ok gamA2_ok mixed Try.func125 (by kernel_rfl) rfl rfl rfl (by simp [Try.ntmps125]) (by kernel_rfl) ?_
  have h1 := hp i hi
  have h2 := hp j hj
  conv => whnf
  repeat' (first
    | (refine NilG.mk fun bn hbn => ?_; conv => whnf)
    | (refine Both.mk ?_ ?_ <;> conv => whnf)
    | exact trivial
    | (refine Br.mk (fun hb => ?_) (fun hb => ?_) <;> (first | (exfalso; revert hb; decide) | ((try simp only [BL] at hb) <;> (try simp only [DL] at hb) <;> conv => whnf)))
    | (refine And.intro ?_ ?_; (focus (first | exact id | exact rfl | exact trivial | (intro hg; first | exact hg | exact rfl | (simp; done) | (simp at hg ⊢; assumption)) | omega | decide | exact is2_c _ _ _ | exact is1_c _ _ | exact isS_c _ _ | exact isB_c _ _ | exact Nat.le_refl _ | assumption | exact mulLe (by decide) (by omega) | exact mulLe2 (by decide) (by omega) (by omega) | (intros; simp only [BL] at *; omega) | (intros; (try simp only [BL] at *); (try simp only [DL] at *); omega) | (intros; simp only [BL] at *; rw [wr_id (by omega) (by omega)]; omega) | (intro h1 h2; exact Bool.and_eq_true_iff.2 ⟨h1, h2⟩) | (intros; simp_all; done))); conv => whnf)
    | (refine Or.inr (And.intro rfl ?_); first | (refine congrArg intV ?_) | (refine congrArg boolV ?_) | (refine tupII ?_ ?_) | (refine tupIII ?_ ?_ ?_) | (refine tupU ?_ ?_ ?_ ?_ ?_) | exact rfl))
  · show IntKind.i64.wrap ((a j).pr - (a i).pr) = _
    rw [if_pos hb, wr_id (by omega) (by omega)]
  · show IntKind.i64.wrap ((a i).pr - (a j).pr) = _
    rw [if_neg (by rw [hb]; decide), wr_id (by omega) (by omega)]
theorem ranCmp {a : Nat → AuO} {b : Bool} {n : Nat} (hn : n ≤ 32) (hp : ∀ k, k < n → -1000000 ≤ (a k).pr ∧ (a k).pr ≤ 1000000) : CmpAuc 125 (fun k => ([bL b][0 + k]?).getD .un) (fun k => ([L.sl 4 n (cAo a)][0 + k]?).getD .un) (colAuc (aIx a b n)) (bSz (aM a b) (aQ a b) n) (oN (aM a b) n) :=
  ⟨fun i j hi hj => ⟨_, ranCmp0 a b n _ _ (own_spec hi).1 (own_spec hj).1 hn hp, by
    rw [aQ_at, aQ_at]
    cases b
    · simp only [Bool.false_eq_true, if_false]; omega
    · simp only [if_true]; omega⟩⟩
def ranK (a : Nat → AuO) (b : Bool) (n : Nat) (obs : List OB) (v : AV) : Prop :=
  obs = [] ∧ ∃ π, Sorted (bSz (aM a b) (aQ a b) n) π (oN (aM a b) n) ∧ v = .c (.sl 1 (oN (aM a b) n) (c1 fun e => aIx a b n (π e)))
theorem aucRanked0 (a : Nat → AuO) (b : Bool) (n : Nat) (hn : n ≤ 32) (hp : ∀ k, k < n → -1000000 ≤ (a k).pr ∧ (a k).pr ≤ 1000000) :
    Fn Try.prog 93 [.c (.sl 4 n (cAo a)), boolV b] (fun obs v => obs = [] ∧ ∃ π, Sorted (bSz (aM a b) (aQ a b) n) π (oN (aM a b) n) ∧ v = .c (.sl 1 (oN (aM a b) n) fun i j => colAuc (aIx a b n) (π i) j)) := by
  refine fn_of_wpx (O := lex) tab_ok gamA2_ok mixed Try.func93 (by kernel_rfl) rfl rfl rfl (by simp [Try.ntmps93]) (by kernel_rfl) ?_
  have hsc := scAuc (aIx a b n)
  conv => whnf
  repeat' (first
    | (refine NilG.mk fun bn hbn => ?_; conv => whnf)
    | (refine Both.mk ?_ ?_ <;> conv => whnf)
    | exact trivial
    | (refine Br.mk (fun hb => ?_) (fun hb => ?_) <;> (first | (exfalso; revert hb; decide) | ((try simp only [BL] at hb) <;> (try simp only [DL] at hb) <;> conv => whnf)))
    | (refine And.intro ?_ ?_; (focus (first | exact id | exact rfl | exact trivial | (intro hg; first | exact hg | exact rfl | (simp; done) | (simp at hg ⊢; assumption)) | omega | decide | exact is2_c _ _ _ | exact is1_c _ _ | exact isS_c _ _ | exact isB_c _ _ | exact Nat.le_refl _ | assumption | exact mulLe (by decide) (by omega) | exact mulLe2 (by decide) (by omega) (by omega) | (intros; simp only [BL] at *; omega) | (intros; (try simp only [BL] at *); (try simp only [DL] at *); omega) | (intros; simp only [BL] at *; rw [wr_id (by omega) (by omega)]; omega) | (intro h1 h2; exact Bool.and_eq_true_iff.2 ⟨h1, h2⟩) | (intros; simp_all; done))); conv => whnf)
    | (refine Or.inr (And.intro rfl ?_); first | (refine congrArg intV ?_) | (refine congrArg boolV ?_) | (refine tupII ?_ ?_) | (refine tupIII ?_ ?_ ?_) | (refine tupU ?_ ?_ ?_ ?_ ?_) | exact rfl))
  refine LoopG.nil 5 3 1 rfl ?_
  refine sem_loop tab_ok gamA2_ok mixed (by kernel_rfl) (O := lex) (fun i : Nat => ⟨[(2, .lp 0 0), (3, .lp 1 0), (5, .own 2), (8, .c (.sl 4 n (cAo a))), (9, intV n), (10, intV i)], [.box [.c (.sl 4 n (cAo a))], .box [boolV b], rowAuc (oN (aM a b) i) (colAuc (aIx a b n)) id]⟩) (fun i => i ≤ n) (fun i => n - i) ⟨0, [?_, ?_, ?_], Nat.zero_le _, ?_⟩ fun i hi => ?_
  rotate_left 3
  · refine Sub.of ?_ ?_ ?_
    repeat' (first | (refine And.intro ?_ ?_) | exact trivial | exact fun _ _ _ => hsc _ _ | (exact congrArg intV (by first | with_reducible rfl | with_reducible assumption)) | exact (rfl : AV.idsLt _ _ = true) | exact (rfl : _ = AV.ren _ (.own _)) | exact (rfl : _ = AV.ren _ (.fn _ _)) | exact (rfl : _ = AV.ren _ (.gh _)) | (exact congrArg intV (by assumption)) | (refine congrArg intV ((wr_id (by omega) (by omega)).trans (by omega))) | exact rfl | (simp only [Int.toNat_natCast, Int.toNat_zero, Nat.sub_zero, Nat.zero_add]; first | exact rfl | done) | exact all0 | exact fun h => Bool.noConfusion h | exact fun _ _ _ _ => rfl | omega)
  have hN := aN_le a b i
  conv => whnf
  repeat' (first
    | (refine NilG.mk fun bn hbn => ?_; conv => whnf)
    | (refine Both.mk ?_ ?_ <;> conv => whnf)
    | exact trivial
    | (refine Br.mk (fun hb => ?_) (fun hb => ?_) <;> (first | (exfalso; revert hb; decide) | ((try simp only [BL] at hb) <;> (try simp only [DL] at hb) <;> conv => whnf)))
    | (refine And.intro ?_ ?_; (focus (first | exact id | exact rfl | exact trivial | (intro hg; first | exact hg | exact rfl | (simp; done) | (simp at hg ⊢; assumption)) | omega | decide | exact is2_c _ _ _ | exact is1_c _ _ | exact isS_c _ _ | exact isB_c _ _ | exact Nat.le_refl _ | assumption | exact mulLe (by decide) (by omega) | exact mulLe2 (by decide) (by omega) (by omega) | (intros; simp only [BL] at *; omega) | (intros; (try simp only [BL] at *); (try simp only [DL] at *); omega) | (intros; simp only [BL] at *; rw [wr_id (by omega) (by omega)]; omega) | (intro h1 h2; exact Bool.and_eq_true_iff.2 ⟨h1, h2⟩) | (intros; simp_all; done))); conv => whnf)
    | (refine Or.inr (And.intro rfl ?_); first | (refine congrArg intV ?_) | (refine congrArg boolV ?_) | (refine tupII ?_ ?_) | (refine tupIII ?_ ?_ ?_) | (refine tupU ?_ ?_ ?_ ?_ ?_) | exact rfl))
  · have hin : i < n := by omega
    have hm : aM a b i = 1 := if_pos hb
    have b0 := own_at (m := aM a b) (k := i) (j := 0) (by omega) hin
    rw [Nat.add_zero] at b0
    have e1 : oN (aM a b) i + 1 = oN (aM a b) (i + 1) := by
      show _ = oN (aM a b) i + aM a b i
      omega
    refine ⟨i + 1, [?_, ?_, ?_], by omega, by omega, ?_⟩
    rotate_left 3
    refine Sub.of ?_ ?_ ?_
    repeat' (first | (refine And.intro ?_ ?_) | exact trivial | exact fun _ _ _ => hsc _ _ | (exact congrArg intV (by first | with_reducible rfl | with_reducible assumption)) | exact (rfl : AV.idsLt _ _ = true) | exact (rfl : _ = AV.ren _ (.own _)) | exact (rfl : _ = AV.ren _ (.fn _ _)) | exact (rfl : _ = AV.ren _ (.gh _)) | (exact congrArg intV (by assumption)) | (refine congrArg intV ((wr_id (by omega) (by omega)).trans (by omega))) | exact rfl | (simp only [Int.toNat_natCast, Int.toNat_zero, Nat.sub_zero, Nat.zero_add]; first | exact rfl | done) | exact all0 | exact fun h => Bool.noConfusion h | exact fun _ _ _ _ => rfl | omega)
    intro aq haq bq hbq
    by_cases hltq : aq < oN (aM a b) i
    · exact if_pos hltq
    · obtain rfl : aq = oN (aM a b) i := by omega
      refine (if_neg hltq).trans ?_
      rw [Nat.sub_self]
      revert bq hbq
      refine all1 (congrArg (fun z : Nat => iL (z : Int)) b0.symm)
  · have hin : i < n := by omega
    have hm : aM a b i = 0 := if_neg hb
    have e1 : oN (aM a b) i = oN (aM a b) (i + 1) := by
      show _ = oN (aM a b) i + aM a b i
      omega
    refine ⟨i + 1, [?_, ?_, ?_], by omega, by omega, ?_⟩
    rotate_left 3
    refine Sub.of ?_ ?_ ?_
    repeat' (first | (refine And.intro ?_ ?_) | exact trivial | exact fun _ _ _ => hsc _ _ | (exact congrArg intV (by first | with_reducible rfl | with_reducible assumption)) | exact (rfl : AV.idsLt _ _ = true) | exact (rfl : _ = AV.ren _ (.own _)) | exact (rfl : _ = AV.ren _ (.fn _ _)) | exact (rfl : _ = AV.ren _ (.gh _)) | (exact congrArg intV (by assumption)) | (refine congrArg intV ((wr_id (by omega) (by omega)).trans (by omega))) | exact rfl | (simp only [Int.toNat_natCast, Int.toNat_zero, Nat.sub_zero, Nat.zero_add]; first | exact rfl | done) | exact all0 | exact fun h => Bool.noConfusion h | exact fun _ _ _ _ => rfl | omega)
  · obtain rfl : i = n := by omega
    refine CallG.wr [2] rfl (FnM.mono (sortAuc (ranCmp hn hp) (by omega)) ?_)
    rintro obs r ⟨π, hq, rfl, rfl⟩
    conv => whnf
    repeat' (first
      | (refine NilG.mk fun bn hbn => ?_; conv => whnf)
      | (refine Both.mk ?_ ?_ <;> conv => whnf)
      | exact trivial
      | (refine Br.mk (fun hb => ?_) (fun hb => ?_) <;> (first | (exfalso; revert hb; decide) | ((try simp only [BL] at hb) <;> (try simp only [DL] at hb) <;> conv => whnf)))
      | (refine And.intro ?_ ?_; (focus (first | exact id | exact rfl | exact trivial | (intro hg; first | exact hg | exact rfl | (simp; done) | (simp at hg ⊢; assumption)) | omega | decide | exact is2_c _ _ _ | exact is1_c _ _ | exact isS_c _ _ | exact isB_c _ _ | exact Nat.le_refl _ | assumption | exact mulLe (by decide) (by omega) | exact mulLe2 (by decide) (by omega) (by omega) | (intros; simp only [BL] at *; omega) | (intros; (try simp only [BL] at *); (try simp only [DL] at *); omega) | (intros; simp only [BL] at *; rw [wr_id (by omega) (by omega)]; omega) | (intro h1 h2; exact Bool.and_eq_true_iff.2 ⟨h1, h2⟩) | (intros; simp_all; done))); conv => whnf)
      | (refine Or.inr (And.intro rfl ?_); first | (refine congrArg intV ?_) | (refine congrArg boolV ?_) | (refine tupII ?_ ?_) | (refine tupIII ?_ ?_ ?_) | (refine tupU ?_ ?_ ?_ ?_ ?_) | exact rfl))
    exact .inr ⟨rfl, π, hq, rfl⟩
theorem aucRanked (a : Nat → AuO) (b : Bool) (n : Nat) (hn : n ≤ 32) (hp : ∀ k, k < n → -1000000 ≤ (a k).pr ∧ (a k).pr ≤ 1000000) : Fn Try.prog 93 [.c (.sl 4 n (cAo a)), boolV b] (ranK a b n) :=
  (aucRanked0 a b n hn hp).res fun obs r ⟨h1, π, h2, h3⟩ => ⟨_, ⟨h1, π, h2, rfl⟩, h3 ▸ Le1.sl fun k hk j hj => by
    obtain rfl : j = 0 := by omega
    rfl⟩
end Go.Proofs.Ytdakikgebfphmaa
