/-
  The package auction: fitting, Clear.
-/
import Derived.Test.YtdakikgebfphmaaAucF
import Derived.Test.YtdakikgebfphmaaAucR
namespace Go.Proofs.Ytdakikgebfphmaa
open Go.RowKit

/-- the prices that fit -/
def aLw (a : Nat → AuO) (x : Nat → Int) (k : Nat) : Prop := ((a k).bu = false ∧ x k > 0) ∨ (a k).bu = true ∧ x k < (a k).pw
def aUp (a : Nat → AuO) (x : Nat → Int) (k : Nat) : Prop := ((a k).bu = true ∧ x k > 0) ∨ (a k).bu = false ∧ x k < (a k).pw
instance (a : Nat → AuO) (x : Nat → Int) : DecidablePred (aLw a x) := fun k => by unfold aLw; infer_instance
instance (a : Nat → AuO) (x : Nat → Int) : DecidablePred (aUp a x) := fun k => by unfold aUp; infer_instance
def loA (a : Nat → AuO) (x : Nat → Int) : Nat → Int
  | 0 => -1099511627776
  | i + 1 => if aLw a x i then max (loA a x i) (a i).pr else loA a x i
def hiA (a : Nat → AuO) (x : Nat → Int) : Nat → Int
  | 0 => 1099511627776
  | i + 1 => if aUp a x i then min (hiA a x i) (a i).pr else hiA a x i
theorem nLw {a : Nat → AuO} {x : Nat → Int} {i : Nat} (h : ((a i).bu = true ∨ ¬x i > 0) ∧ ((a i).bu = false ∨ ¬x i < (a i).pw)) : ¬ aLw a x i := by
  unfold aLw
  rintro (⟨h1, h2⟩ | ⟨h1, h2⟩)
  · rcases h.1 with h3 | h3
    · rw [h1] at h3; cases h3
    · exact h3 h2
  · rcases h.2 with h3 | h3
    · rw [h1] at h3; cases h3
    · exact h3 h2
theorem nUp {a : Nat → AuO} {x : Nat → Int} {i : Nat} (h : ((a i).bu = false ∨ ¬x i > 0) ∧ ((a i).bu = true ∨ ¬x i < (a i).pw)) : ¬ aUp a x i := by
  unfold aUp
  rintro (⟨h1, h2⟩ | ⟨h1, h2⟩)
  · rcases h.1 with h3 | h3
    · rw [h1] at h3; cases h3
    · exact h3 h2
  · rcases h.2 with h3 | h3
    · rw [h1] at h3; cases h3
    · exact h3 h2
theorem aucFitting (a : Nat → AuO) (x : Nat → Int) (n : Nat) (hn : n ≤ 32) : Fn1 Try.prog 94 [.c (.sl 4 n (cAo a)), .c (.sl 1 n (c1 x))] (.tup [intV (loA a x n), intV (hiA a x n)]) := by
  refine fn_of_wpx (O := lex) tab_ok gamA3_ok mixed Try.func94 (by kernel_rfl) rfl rfl rfl (by simp [Try.ntmps94]) (by kernel_rfl) ?_
  conv => whnf
  repeat' (first
    | (refine NilG.mk fun bn hbn => ?_; conv => whnf)
    | (refine Both.mk ?_ ?_ <;> conv => whnf)
    | exact trivial
    | (refine Br.mk (fun hb => ?_) (fun hb => ?_) <;> (first | (exfalso; revert hb; decide) | ((try simp only [BL] at hb) <;> (try simp only [DL] at hb) <;> conv => whnf)))
    | (refine And.intro ?_ ?_; (focus (first | exact id | exact rfl | exact trivial | (intro hg; first | exact hg | exact rfl | (simp; done) | (simp at hg ⊢; assumption)) | omega | decide | exact is2_c _ _ _ | exact is1_c _ _ | exact isS_c _ _ | exact isB_c _ _ | exact Nat.le_refl _ | assumption | exact mulLe (by decide) (by omega) | exact mulLe2 (by decide) (by omega) (by omega) | (intros; simp only [BL] at *; omega) | (intros; (try simp only [BL] at *); (try simp only [DL] at *); omega) | (intros; simp only [BL] at *; rw [wr_id (by omega) (by omega)]; omega) | (intro h1 h2; exact Bool.and_eq_true_iff.2 ⟨h1, h2⟩) | (intros; simp_all; done))); conv => whnf)
    | (refine Or.inr (And.intro rfl ?_); first | (refine congrArg intV ?_) | (refine congrArg boolV ?_) | (refine tupII ?_ ?_) | (refine tupIII ?_ ?_ ?_) | (refine tupU ?_ ?_ ?_ ?_ ?_) | exact rfl))
  refine sem_loop tab_ok gamA3_ok mixed (by kernel_rfl) (O := lex) (fun i : Nat => ⟨[(1, .c (.sl 1 n (c1 x))), (6, intV (loA a x i)), (7, intV (hiA a x i)), (10, .c (.sl 4 n (cAo a))), (11, intV n), (12, intV i)], []⟩) (fun i => i ≤ n) (fun i => n - i) ⟨0, [], Nat.zero_le _, ?_⟩ fun i hi => ?_
  · refine Sub.of ?_ ?_ ?_
    repeat' (first | (refine And.intro ?_ ?_) | exact trivial | exact fun _ _ _ => hsc _ _ | (exact congrArg intV (by first | with_reducible rfl | with_reducible assumption)) | exact (rfl : AV.idsLt _ _ = true) | exact (rfl : _ = AV.ren _ (.own _)) | exact (rfl : _ = AV.ren _ (.fn _ _)) | exact (rfl : _ = AV.ren _ (.gh _)) | (exact congrArg intV (by assumption)) | (refine congrArg intV ((wr_id (by omega) (by omega)).trans (by omega))) | exact rfl | (simp only [Int.toNat_natCast, Int.toNat_zero, Nat.sub_zero, Nat.zero_add]; first | exact rfl | done) | exact all0 | exact fun h => Bool.noConfusion h | exact fun _ _ _ _ => rfl | omega)
  have hlo : loA a x (i + 1) = if aLw a x i then max (loA a x i) (a i).pr else loA a x i := rfl
  have hhi : hiA a x (i + 1) = if aUp a x i then min (hiA a x i) (a i).pr else hiA a x i := rfl
  conv => whnf
  repeat' (first
    | (refine NilG.mk fun bn hbn => ?_; conv => whnf)
    | (refine Both.mk ?_ ?_ <;> conv => whnf)
    | exact trivial
    | (refine Br.mk (fun hb => ?_) (fun hb => ?_) <;> (first | (exfalso; revert hb; decide) | ((try simp only [BL] at hb) <;> (try simp only [DL] at hb) <;> conv => whnf)))
    | (refine And.intro ?_ ?_; (focus (first | exact id | exact rfl | exact trivial | (intro hg; first | exact hg | exact rfl | (simp; done) | (simp at hg ⊢; assumption)) | omega | decide | exact is2_c _ _ _ | exact is1_c _ _ | exact isS_c _ _ | exact isB_c _ _ | exact Nat.le_refl _ | assumption | exact mulLe (by decide) (by omega) | exact mulLe2 (by decide) (by omega) (by omega) | (intros; simp only [BL] at *; omega) | (intros; (try simp only [BL] at *); (try simp only [DL] at *); omega) | (intros; simp only [BL] at *; rw [wr_id (by omega) (by omega)]; omega) | (intro h1 h2; exact Bool.and_eq_true_iff.2 ⟨h1, h2⟩) | (intros; simp_all; done))); conv => whnf)
    | (refine Or.inr (And.intro rfl ?_); first | (refine congrArg intV ?_) | (refine congrArg boolV ?_) | (refine tupII ?_ ?_) | (refine tupIII ?_ ?_ ?_) | (refine tupU ?_ ?_ ?_ ?_ ?_) | exact rfl))
  · rename_i hu
    have e1 : min (hiA a x i) (a i).pr = hiA a x (i + 1) := by rw [hhi, if_pos (show aUp a x i from hu)]
    have e2 : max (loA a x i) (a i).pr = loA a x (i + 1) := by rw [hlo, if_pos (show aLw a x i from hb)]
    refine ⟨i + 1, [], by omega, by omega, ?_⟩
    refine Sub.of ?_ ?_ ?_
    repeat' (first | (refine And.intro ?_ ?_) | exact trivial | exact fun _ _ _ => hsc _ _ | (exact congrArg intV (by first | with_reducible rfl | with_reducible assumption)) | exact (rfl : AV.idsLt _ _ = true) | exact (rfl : _ = AV.ren _ (.own _)) | exact (rfl : _ = AV.ren _ (.fn _ _)) | exact (rfl : _ = AV.ren _ (.gh _)) | (exact congrArg intV (by assumption)) | (refine congrArg intV ((wr_id (by omega) (by omega)).trans (by omega))) | exact rfl | (simp only [Int.toNat_natCast, Int.toNat_zero, Nat.sub_zero, Nat.zero_add]; first | exact rfl | done) | exact all0 | exact fun h => Bool.noConfusion h | exact fun _ _ _ _ => rfl | omega)
  · rename_i hu
    have e1 : min (hiA a x i) (a i).pr = hiA a x (i + 1) := by rw [hhi, if_pos (show aUp a x i from hu)]
    have e2 : loA a x i = loA a x (i + 1) := by rw [hlo, if_neg (nLw hb)]
    refine ⟨i + 1, [], by omega, by omega, ?_⟩
    refine Sub.of ?_ ?_ ?_
    repeat' (first | (refine And.intro ?_ ?_) | exact trivial | exact fun _ _ _ => hsc _ _ | (exact congrArg intV (by first | with_reducible rfl | with_reducible assumption)) | exact (rfl : AV.idsLt _ _ = true) | exact (rfl : _ = AV.ren _ (.own _)) | exact (rfl : _ = AV.ren _ (.fn _ _)) | exact (rfl : _ = AV.ren _ (.gh _)) | (exact congrArg intV (by assumption)) | (refine congrArg intV ((wr_id (by omega) (by omega)).trans (by omega))) | exact rfl | (simp only [Int.toNat_natCast, Int.toNat_zero, Nat.sub_zero, Nat.zero_add]; first | exact rfl | done) | exact all0 | exact fun h => Bool.noConfusion h | exact fun _ _ _ _ => rfl | omega)
  · rename_i hu
    have e1 : hiA a x i = hiA a x (i + 1) := by rw [hhi, if_neg (nUp hu)]
    have e2 : max (loA a x i) (a i).pr = loA a x (i + 1) := by rw [hlo, if_pos (show aLw a x i from hb)]
    refine ⟨i + 1, [], by omega, by omega, ?_⟩
    refine Sub.of ?_ ?_ ?_
    repeat' (first | (refine And.intro ?_ ?_) | exact trivial | exact fun _ _ _ => hsc _ _ | (exact congrArg intV (by first | with_reducible rfl | with_reducible assumption)) | exact (rfl : AV.idsLt _ _ = true) | exact (rfl : _ = AV.ren _ (.own _)) | exact (rfl : _ = AV.ren _ (.fn _ _)) | exact (rfl : _ = AV.ren _ (.gh _)) | (exact congrArg intV (by assumption)) | (refine congrArg intV ((wr_id (by omega) (by omega)).trans (by omega))) | exact rfl | (simp only [Int.toNat_natCast, Int.toNat_zero, Nat.sub_zero, Nat.zero_add]; first | exact rfl | done) | exact all0 | exact fun h => Bool.noConfusion h | exact fun _ _ _ _ => rfl | omega)
  · rename_i hu
    have e1 : hiA a x i = hiA a x (i + 1) := by rw [hhi, if_neg (nUp hu)]
    have e2 : loA a x i = loA a x (i + 1) := by rw [hlo, if_neg (nLw hb)]
    refine ⟨i + 1, [], by omega, by omega, ?_⟩
    refine Sub.of ?_ ?_ ?_
    repeat' (first | (refine And.intro ?_ ?_) | exact trivial | exact fun _ _ _ => hsc _ _ | (exact congrArg intV (by first | with_reducible rfl | with_reducible assumption)) | exact (rfl : AV.idsLt _ _ = true) | exact (rfl : _ = AV.ren _ (.own _)) | exact (rfl : _ = AV.ren _ (.fn _ _)) | exact (rfl : _ = AV.ren _ (.gh _)) | (exact congrArg intV (by assumption)) | (refine congrArg intV ((wr_id (by omega) (by omega)).trans (by omega))) | exact rfl | (simp only [Int.toNat_natCast, Int.toNat_zero, Nat.sub_zero, Nat.zero_add]; first | exact rfl | done) | exact all0 | exact fun h => Bool.noConfusion h | exact fun _ _ _ _ => rfl | omega)
  · rw [show i = n by omega]
  · rw [show i = n by omega]
theorem loA_b {a : Nat → AuO} {x : Nat → Int} {n : Nat} (hp : ∀ k, k < n → -1000000 ≤ (a k).pr ∧ (a k).pr ≤ 1000000) : ∀ i, i ≤ n → -1099511627776 ≤ loA a x i ∧ loA a x i ≤ 1000000 ∧ -1000000 ≤ hiA a x i ∧ hiA a x i ≤ 1099511627776
  | 0, _ => ⟨Int.le_refl _, show (-1099511627776 : Int) ≤ 1000000 by decide, show (-1000000 : Int) ≤ 1099511627776 by decide, Int.le_refl _⟩
  | i + 1, hi => by
    have ih := loA_b (x := x) hp i (by omega)
    have := hp i (by omega)
    simp only [loA, hiA]
    split <;> split <;> omega
/-- the places of a side from the head on -/
def aTl (a : Nat → AuO) (b : Bool) (n : Nat) (π : Nat → Nat) (t : Int) : Nat → Nat → L := fun k j => c1 (fun e => (own (aM a b) n (π e) : Int)) (aHd a b n π t + k) j
theorem aTl_next {a : Nat → AuO} {b : Bool} {n : Nat} {π : Nat → Nat} {t u : Int} {w : Nat → Nat} (hw : w = fun k => own (aM a b) n (π (aHd a b n π t + k))) (h : aHd a b n π u = aHd a b n π t + 1) :
    AV.c (.sl 1 (oN (aM a b) n - aHd a b n π t - 1) fun k j => c1 (fun e => (w e : Int)) (1 + k) j) = .c (.sl 1 (oN (aM a b) n - aHd a b n π u) (aTl a b n π u)) := by
  unfold aTl
  rw [hw, h, Nat.sub_sub]
  refine congrArg (fun f => AV.c (.sl 1 _ f)) (funext fun k => funext fun j => ?_)
  rw [Nat.add_assoc]
  rfl
theorem aTl_keep {a : Nat → AuO} {b : Bool} {n : Nat} {π : Nat → Nat} {t u : Int} {w : Nat → Nat} (hw : w = fun k => own (aM a b) n (π (aHd a b n π t + k))) (h : aHd a b n π u = aHd a b n π t) :
    AV.c (.sl 1 (oN (aM a b) n - aHd a b n π t) (c1 (fun e => (w e : Int)))) = .c (.sl 1 (oN (aM a b) n - aHd a b n π u) (aTl a b n π u)) := by
  unfold aTl
  rw [hw, h]
  rfl
def aPr (a : Nat → AuO) (n : Nat) (π1 π2 : Nat → Nat) (t : Int) : Int := shrI .i64 (IntKind.i64.wrap (loA a (aFl a n π1 π2 t) n + hiA a (aFl a n π1 π2 t) n)) 1
def gamA4 : Gam := fun _ => none
theorem gamA4_ok : GOk Try.prog gamA4 := fun _ _ h => by cases h
def acK (a : Nat → AuO) (n : Nat) (obs : List OB) (v : AV) : Prop :=
  obs = [] ∧ ((aosE n a ≠ 0 ∧ v = .tup [.agg [intV 0, intV 0, .c (.v (.slice none 0 0))], intV (aosE n a)]) ∨
    (aosE n a = 0 ∧ ∃ π1 π2, ∃ t : Nat, Auc a n π1 π2 ∧ (∀ u : Nat, u < t → aFit a n π1 π2 u) ∧ ¬ aFit a n π1 π2 t ∧ v = .tup [.agg [intV (if 0 < t then aPr a n π1 π2 t else 0), intV t, .c (.sl 1 n (c1 (aFl a n π1 π2 t)))], intV 0]))
set_option maxHeartbeats 2000000 in
theorem aucClear (a : Nat → AuO) (n : Nat) (hn : n ≤ maxLen) (hk : ∀ k, k < n → (a k).nm.size ≤ maxLen) : Fn Try.prog 44 [.c (.sl 4 n (cAo a))] (acK a n) := by
  refine fn_of_wpx (O := lex) tab_ok gamA4_ok mixed Try.func44 (by kernel_rfl) rfl rfl rfl (by simp [Try.ntmps44]) (by kernel_rfl) ?_
  have hn' : n ≤ 9223372036854775807 := hn
  conv => whnf
  repeat' (first
    | (refine NilG.mk fun bn hbn => ?_; conv => whnf)
    | (refine Both.mk ?_ ?_ <;> conv => whnf)
    | exact trivial
    | (refine Br.mk (fun hb => ?_) (fun hb => ?_) <;> (first | (exfalso; revert hb; decide) | ((try simp only [BL] at hb) <;> (try simp only [DL] at hb) <;> conv => whnf)))
    | (refine And.intro ?_ ?_; (focus (first | exact id | exact rfl | exact trivial | (intro hg; first | exact hg | exact rfl | (simp; done) | (simp at hg ⊢; assumption)) | omega | decide | exact is2_c _ _ _ | exact is1_c _ _ | exact isS_c _ _ | exact isB_c _ _ | exact Nat.le_refl _ | assumption | exact mulLe (by decide) (by omega) | exact mulLe2 (by decide) (by omega) (by omega) | (intros; simp only [BL] at *; omega) | (intros; (try simp only [BL] at *); (try simp only [DL] at *); omega) | (intros; simp only [BL] at *; rw [wr_id (by omega) (by omega)]; omega) | (intro h1 h2; exact Bool.and_eq_true_iff.2 ⟨h1, h2⟩) | (intros; simp_all; done))); conv => whnf)
    | (refine Or.inr (And.intro rfl ?_); first | (refine congrArg intV ?_) | (refine congrArg boolV ?_) | (refine tupII ?_ ?_) | (refine tupIII ?_ ?_ ?_) | (refine tupU ?_ ?_ ?_ ?_ ?_) | exact rfl))
  refine CallG.mk (Fn.mono (aucCheck a n hn hk) ?_)
  rintro obs r ⟨rfl, rfl⟩
  conv => whnf
  repeat' (first
    | (refine NilG.mk fun bn hbn => ?_; conv => whnf)
    | (refine Both.mk ?_ ?_ <;> conv => whnf)
    | exact trivial
    | (refine Br.mk (fun hb => ?_) (fun hb => ?_) <;> (first | (exfalso; revert hb; decide) | ((try simp only [BL] at hb) <;> (try simp only [DL] at hb) <;> conv => whnf)))
    | (refine And.intro ?_ ?_; (focus (first | exact id | exact rfl | exact trivial | (intro hg; first | exact hg | exact rfl | (simp; done) | (simp at hg ⊢; assumption)) | omega | decide | exact is2_c _ _ _ | exact is1_c _ _ | exact isS_c _ _ | exact isB_c _ _ | exact Nat.le_refl _ | assumption | exact mulLe (by decide) (by omega) | exact mulLe2 (by decide) (by omega) (by omega) | (intros; simp only [BL] at *; omega) | (intros; (try simp only [BL] at *); (try simp only [DL] at *); omega) | (intros; simp only [BL] at *; rw [wr_id (by omega) (by omega)]; omega) | (intro h1 h2; exact Bool.and_eq_true_iff.2 ⟨h1, h2⟩) | (intros; simp_all; done))); conv => whnf)
    | (refine Or.inr (And.intro rfl ?_); first | (refine congrArg intV ?_) | (refine congrArg boolV ?_) | (refine tupII ?_ ?_) | (refine tupIII ?_ ?_ ?_) | (refine tupU ?_ ?_ ?_ ?_ ?_) | exact rfl))
  · have h0 : ¬ aosE n a = 0 := hb
    exact .inr ⟨rfl, .inl ⟨h0, rfl⟩⟩
  have h0 : aosE n a = 0 := by assumption
  obtain ⟨hn32, hall⟩ := aosE_zero h0
  have hp : ∀ k, k < n → -1000000 ≤ (a k).pr ∧ (a k).pr ≤ 1000000 := fun k hk => (hall k hk).2.2
  refine And.intro (by show (8 : Int) * n ≤ _; omega) (And.intro (by omega) (And.intro (by decide) ?_))
  conv => whnf
  repeat' (first
    | (refine NilG.mk fun bn hbn => ?_; conv => whnf)
    | (refine Both.mk ?_ ?_ <;> conv => whnf)
    | exact trivial
    | (refine Br.mk (fun hb => ?_) (fun hb => ?_) <;> (first | (exfalso; revert hb; decide) | ((try simp only [BL] at hb) <;> (try simp only [DL] at hb) <;> conv => whnf)))
    | (refine And.intro ?_ ?_; (focus (first | exact id | exact rfl | exact trivial | (intro hg; first | exact hg | exact rfl | (simp; done) | (simp at hg ⊢; assumption)) | omega | decide | exact is2_c _ _ _ | exact is1_c _ _ | exact isS_c _ _ | exact isB_c _ _ | exact Nat.le_refl _ | assumption | exact mulLe (by decide) (by omega) | exact mulLe2 (by decide) (by omega) (by omega) | (intros; simp only [BL] at *; omega) | (intros; (try simp only [BL] at *); (try simp only [DL] at *); omega) | (intros; simp only [BL] at *; rw [wr_id (by omega) (by omega)]; omega) | (intro h1 h2; exact Bool.and_eq_true_iff.2 ⟨h1, h2⟩) | (intros; simp_all; done))); conv => whnf)
    | (refine Or.inr (And.intro rfl ?_); first | (refine congrArg intV ?_) | (refine congrArg boolV ?_) | (refine tupII ?_ ?_) | (refine tupIII ?_ ?_ ?_) | (refine tupU ?_ ?_ ?_ ?_ ?_) | exact rfl))
  refine CallG.mk (Fn.mono (aucRanked a true n hn32 hp) ?_)
  rintro obs r ⟨rfl, π1, hq1, rfl⟩
  conv => whnf
  repeat' (first
    | (refine NilG.mk fun bn hbn => ?_; conv => whnf)
    | (refine Both.mk ?_ ?_ <;> conv => whnf)
    | exact trivial
    | (refine Br.mk (fun hb => ?_) (fun hb => ?_) <;> (first | (exfalso; revert hb; decide) | ((try simp only [BL] at hb) <;> (try simp only [DL] at hb) <;> conv => whnf)))
    | (refine And.intro ?_ ?_; (focus (first | exact id | exact rfl | exact trivial | (intro hg; first | exact hg | exact rfl | (simp; done) | (simp at hg ⊢; assumption)) | omega | decide | exact is2_c _ _ _ | exact is1_c _ _ | exact isS_c _ _ | exact isB_c _ _ | exact Nat.le_refl _ | assumption | exact mulLe (by decide) (by omega) | exact mulLe2 (by decide) (by omega) (by omega) | (intros; simp only [BL] at *; omega) | (intros; (try simp only [BL] at *); (try simp only [DL] at *); omega) | (intros; simp only [BL] at *; rw [wr_id (by omega) (by omega)]; omega) | (intro h1 h2; exact Bool.and_eq_true_iff.2 ⟨h1, h2⟩) | (intros; simp_all; done))); conv => whnf)
    | (refine Or.inr (And.intro rfl ?_); first | (refine congrArg intV ?_) | (refine congrArg boolV ?_) | (refine tupII ?_ ?_) | (refine tupIII ?_ ?_ ?_) | (refine tupU ?_ ?_ ?_ ?_ ?_) | exact rfl))
  refine CallG.mk (Fn.mono (aucRanked a false n hn32 hp) ?_)
  rintro obs r ⟨rfl, π2, hq2, rfl⟩
  conv => whnf
  repeat' (first
    | (refine NilG.mk fun bn hbn => ?_; conv => whnf)
    | (refine Both.mk ?_ ?_ <;> conv => whnf)
    | exact trivial
    | (refine Br.mk (fun hb => ?_) (fun hb => ?_) <;> (first | (exfalso; revert hb; decide) | ((try simp only [BL] at hb) <;> (try simp only [DL] at hb) <;> conv => whnf)))
    | (refine And.intro ?_ ?_; (focus (first | exact id | exact rfl | exact trivial | (intro hg; first | exact hg | exact rfl | (simp; done) | (simp at hg ⊢; assumption)) | omega | decide | exact is2_c _ _ _ | exact is1_c _ _ | exact isS_c _ _ | exact isB_c _ _ | exact Nat.le_refl _ | assumption | exact mulLe (by decide) (by omega) | exact mulLe2 (by decide) (by omega) (by omega) | (intros; simp only [BL] at *; omega) | (intros; (try simp only [BL] at *); (try simp only [DL] at *); omega) | (intros; simp only [BL] at *; rw [wr_id (by omega) (by omega)]; omega) | (intro h1 h2; exact Bool.and_eq_true_iff.2 ⟨h1, h2⟩) | (intros; simp_all; done))); conv => whnf)
    | (refine Or.inr (And.intro rfl ?_); first | (refine congrArg intV ?_) | (refine congrArg boolV ?_) | (refine tupII ?_ ?_) | (refine tupIII ?_ ?_ ?_) | (refine tupU ?_ ?_ ?_ ?_ ?_) | exact rfl))
  have h : Auc a n π1 π2 := ⟨fun k hk => by have := hall k hk; omega, hq1, hq2⟩
  have z1 : aHd a true n π1 ((0 : Nat) : Int) = 0 := hd_eq h.b1 (Nat.zero_le _) (Int.le_refl _) fun hl => by
    have := h.b1.sz_pos (hq1.lt hl)
    show (0 : Int) < 0 + bSz (aM a true) (aP a) n (π1 0)
    omega
  have z2 : aHd a false n π2 ((0 : Nat) : Int) = 0 := hd_eq h.b2 (Nat.zero_le _) (Int.le_refl _) fun hl => by
    have := h.b2.sz_pos (hq2.lt hl)
    show (0 : Int) < 0 + bSz (aM a false) (aP a) n (π2 0)
    omega
  have y1 : AV.c (.sl 1 (oN (aM a true) n) (c1 fun e => aIx a true n (π1 e))) = .c (.sl 1 (oN (aM a true) n - aHd a true n π1 ((0 : Nat) : Int)) (aTl a true n π1 ((0 : Nat) : Int))) := by
    unfold aTl
    rw [z1, Nat.sub_zero]
    refine congrArg (fun f => AV.c (.sl 1 (oN (aM a true) n) f)) (funext fun k => funext fun j => ?_)
    rw [Nat.zero_add]
    rfl
  have y2 : AV.c (.sl 1 (oN (aM a false) n) (c1 fun e => aIx a false n (π2 e))) = .c (.sl 1 (oN (aM a false) n - aHd a false n π2 ((0 : Nat) : Int)) (aTl a false n π2 ((0 : Nat) : Int))) := by
    unfold aTl
    rw [z2, Nat.sub_zero]
    refine congrArg (fun f => AV.c (.sl 1 (oN (aM a false) n) f)) (funext fun k => funext fun j => ?_)
    rw [Nat.zero_add]
    rfl
  rw [y1, y2]
  refine sem_loop tab_ok gamA4_ok mixed (by kernel_rfl) (O := lex) (fun t : Nat => ⟨[(0, .c (.sl 4 n (cAo a))), (2, .lp 0 0), (5, .lp 1 0), (6, .c (.sl 1 (oN (aM a true) n - aHd a true n π1 t) (aTl a true n π1 t))), (7, .c (.sl 1 (oN (aM a false) n - aHd a false n π2 t) (aTl a false n π2 t)))], [.box [intV 0, intV 0, .c (.v (.slice none 0 0))], .box [intV 0, intV t, .own 2], .row 3 1 n false (c1 (aFl a n π1 π2 t))]⟩) (fun t => ∀ u : Nat, u < t → aFit a n π1 π2 u) (fun t => (aAll a true n).toNat - t) ⟨0, [?_, ?_, ?_], fun u hu => absurd hu (Nat.not_lt_zero _), ?_⟩ fun t ht => ?_
  rotate_left 3
  · refine Sub.of ?_ ?_ ?_
    repeat' (first | (refine And.intro ?_ ?_) | exact trivial | exact fun _ _ _ => hsc _ _ | (exact congrArg intV (by first | with_reducible rfl | with_reducible assumption)) | exact (rfl : AV.idsLt _ _ = true) | exact (rfl : _ = AV.ren _ (.own _)) | exact (rfl : _ = AV.ren _ (.fn _ _)) | exact (rfl : _ = AV.ren _ (.gh _)) | (exact congrArg intV (by assumption)) | (refine congrArg intV ((wr_id (by omega) (by omega)).trans (by omega))) | exact rfl | (simp only [Int.toNat_natCast, Int.toNat_zero, Nat.sub_zero, Nat.zero_add]; first | exact rfl | done) | exact all0 | exact fun h => Bool.noConfusion h | exact fun _ _ _ _ => rfl | omega)
    · intro z hz c hc
      have hc : c < 1 := hc
      obtain rfl : c = 0 := by omega
      show iL 0 = iL (aFl a n π1 π2 ((0 : Nat) : Int) z)
      rw [show ((0 : Nat) : Int) = 0 from rfl, aFl_zero h]
  clear y1 y2 z1 z2
  obtain ⟨hl1, hl2⟩ := aFit_le h ht
  have hN1 := aN_le a true n
  have hN2 := aN_le a false n
  obtain ⟨w1, hw1⟩ : ∃ w : Nat → Nat, w = fun k => own (aM a true) n (π1 (aHd a true n π1 t + k)) := ⟨_, rfl⟩
  obtain ⟨w2, hw2⟩ : ∃ w : Nat → Nat, w = fun k => own (aM a false) n (π2 (aHd a false n π2 t + k)) := ⟨_, rfl⟩
  rw [show aTl a true n π1 t = c1 (fun k => (w1 k : Int)) by rw [hw1]; rfl, show aTl a false n π2 t = c1 (fun k => (w2 k : Int)) by rw [hw2]; rfl]
  have q1 : own (aM a true) n (π1 (aHd a true n π1 t)) = w1 0 := by rw [hw1]; rfl
  have q2 : own (aM a false) n (π2 (aHd a false n π2 t)) = w2 0 := by rw [hw2]; rfl
  have hi1 : aHd a true n π1 t < oN (aM a true) n → 0 ≤ (w1 0 : Int) ∧ (w1 0 : Int) < n := fun hl => by
    have := (aOwn hq1 hl).1
    rw [← q1]
    omega
  have hi2 : aHd a false n π2 t < oN (aM a false) n → 0 ≤ (w2 0 : Int) ∧ (w2 0 : Int) < n := fun hl => by
    have := (aOwn hq2 hl).1
    rw [← q2]
    omega
  have hnf : (¬ ((oN (aM a true) n - aHd a true n π1 t : Nat) : Int) > 0 ∨ ¬ ((oN (aM a false) n - aHd a false n π2 t : Nat) : Int) > 0) ∨ ¬ (a (w1 0)).pr ≥ (a (w2 0)).pr → ¬ aFit a n π1 π2 t := fun he hf => by
    obtain ⟨f1, f2, f3⟩ := hf
    have f3 : -(a (own (aM a true) n (π1 (aHd a true n π1 t)))).pr + (a (own (aM a false) n (π2 (aHd a false n π2 t)))).pr ≤ 0 := f3
    rw [q1, q2] at f3
    omega
  conv => whnf
  repeat' (first
    | (refine NilG.mk fun bn hbn => ?_; conv => whnf)
    | (refine Both.mk ?_ ?_ <;> conv => whnf)
    | exact trivial
    | (refine Br.mk (fun hb => ?_) (fun hb => ?_) <;> (first | (exfalso; revert hb; decide) | ((try simp only [BL] at hb) <;> (try simp only [DL] at hb) <;> conv => whnf)))
    | (refine And.intro ?_ ?_; (focus (first | exact id | exact rfl | exact trivial | (intro hg; first | exact hg | exact rfl | (simp; done) | (simp at hg ⊢; assumption)) | omega | decide | exact is2_c _ _ _ | exact is1_c _ _ | exact isS_c _ _ | exact isB_c _ _ | exact Nat.le_refl _ | assumption | exact mulLe (by decide) (by omega) | exact mulLe2 (by decide) (by omega) (by omega) | (intros; simp only [BL] at *; omega) | (intros; (try simp only [BL] at *); (try simp only [DL] at *); omega) | (intros; simp only [BL] at *; rw [wr_id (by omega) (by omega)]; omega) | (intro h1 h2; exact Bool.and_eq_true_iff.2 ⟨h1, h2⟩) | first | exact fun hg => hi1 (by simp only [BL] at hg; omega) | exact fun hg => hi2 (by simp only [BL] at hg; omega) | (intros; simp_all; done))); conv => whnf)
    | (refine Or.inr (And.intro rfl ?_); first | (refine congrArg intV ?_) | (refine congrArg boolV ?_) | (refine tupII ?_ ?_) | (refine tupIII ?_ ?_ ?_) | (refine tupU ?_ ?_ ?_ ?_ ?_) | exact rfl))
  · have g1 : aHd a true n π1 t < oN (aM a true) n := by omega
    have g2 : aHd a false n π2 t < oN (aM a false) n := by omega
    have hf : aFit a n π1 π2 t := ⟨g1, g2, by
      have hb2 : (a (w1 0)).pr ≥ (a (w2 0)).pr := hb.2
      show -(a (own (aM a true) n (π1 (aHd a true n π1 t)))).pr + (a (own (aM a false) n (π2 (aHd a false n π2 t)))).pr ≤ 0
      rw [q1, q2]
      omega⟩
    have hj1 := hi1 g1
    have hj2 := hi2 g2
    conv => whnf
    repeat' (first
      | (refine NilG.mk fun bn hbn => ?_; conv => whnf)
      | (refine Both.mk ?_ ?_ <;> conv => whnf)
      | exact trivial
      | (refine Br.mk (fun hb => ?_) (fun hb => ?_) <;> (first | (exfalso; revert hb; decide) | ((try simp only [BL] at hb) <;> (try simp only [DL] at hb) <;> conv => whnf)))
      | (refine And.intro ?_ ?_; (focus (first | exact id | exact rfl | exact trivial | (intro hg; first | exact hg | exact rfl | (simp; done) | (simp at hg ⊢; assumption)) | omega | decide | exact is2_c _ _ _ | exact is1_c _ _ | exact isS_c _ _ | exact isB_c _ _ | exact Nat.le_refl _ | assumption | exact mulLe (by decide) (by omega) | exact mulLe2 (by decide) (by omega) (by omega) | (intros; simp only [BL] at *; omega) | (intros; (try simp only [BL] at *); (try simp only [DL] at *); omega) | (intros; simp only [BL] at *; rw [wr_id (by omega) (by omega)]; omega) | (intro h1 h2; exact Bool.and_eq_true_iff.2 ⟨h1, h2⟩) | first | exact hj1 | exact hj2 | (intros; simp_all; done))); conv => whnf)
      | (refine Or.inr (And.intro rfl ?_); first | (refine congrArg intV ?_) | (refine congrArg boolV ?_) | (refine tupII ?_ ?_) | (refine tupIII ?_ ?_ ?_) | (refine tupU ?_ ?_ ?_ ?_ ?_) | exact rfl))
    clear hi1 hi2 hj1 hj2 hb
    obtain ⟨d1, d2, d3, d4⟩ := aHead h hq1 (Int.natCast_nonneg t) hl1 g1
    obtain ⟨d5, d6, d7, d8⟩ := aHead h hq2 (Int.natCast_nonneg t) hl2 g2
    obtain ⟨o1, o2⟩ := aOwn hq1 g1
    obtain ⟨o3, o4⟩ := aOwn hq2 g2
    have x1 := aFl_b h (Int.natCast_nonneg t) hl1 hl2 o1
    have x2 := aFl_b h (Int.natCast_nonneg t) hl1 hl2 o3
    have x1e := x1.2.2.1 o2
    have x2e := x2.2.2.2 o4
    have hsteps := aFl_steps h ht hf
    have hk1 := fun u => aHd_keep h hq1 (t := t) (u := u) (Int.natCast_nonneg t) hl1 g1
    have hk2 := fun u => aHd_keep h hq2 (t := t) (u := u) (Int.natCast_nonneg t) hl2 g2
    have hx1 := fun u => aHd_next h hq1 (t := t) (u := u) (Int.natCast_nonneg t) hl1 g1
    have hx2 := fun u => aHd_next h hq2 (t := t) (u := u) (Int.natCast_nonneg t) hl2 g2
    have p1 := hall _ o1
    have p2 := hall _ o3
    have hlt := aFit_all h hf
    have hne : own (aM a false) n (π2 (aHd a false n π2 t)) ≠ own (aM a true) n (π1 (aHd a true n π1 t)) := fun e => by rw [e, o2] at o4; cases o4
    simp only [Int.toNat_natCast, Int.toNat_zero, Nat.add_zero]
    rw [q1] at d1 d2 o1 o2 x1 x1e hsteps p1 hne
    rw [q2] at d5 d6 o3 o4 x2 x2e hsteps p2 hne
    obtain ⟨u1, hu1⟩ : ∃ u, w1 0 = u := ⟨_, rfl⟩
    obtain ⟨u2, hu2⟩ : ∃ u, w2 0 = u := ⟨_, rfl⟩
    rw [hu1] at d1 d2 o1 o2 x1 x1e hsteps p1 hne
    rw [hu2] at d5 d6 o3 o4 x2 x2e hsteps p2 hne
    simp only [hu1, hu2]
    have w1 : IntKind.i64.wrap ((a u1).pw - aFl a n π1 π2 t u1) = aCm a true n π1 (aHd a true n π1 t + 1) - t := by
      rw [x1e, d1, wr_id (by omega) (by omega)]
      omega
    have w2 : IntKind.i64.wrap ((a u2).pw - aFl a n π1 π2 t u2) = aCm a false n π2 (aHd a false n π2 t + 1) - t := by
      rw [x2e, d5, wr_id (by omega) (by omega)]
      omega
    rw [w1, w2]
    generalize hd : min (aCm a true n π1 (aHd a true n π1 t + 1) - t) (aCm a false n π2 (aHd a false n π2 t + 1) - t) = d
    have hne' : ¬ u1 = u2 := fun e => hne e.symm
    rw [if_neg hne]
    conv => whnf
    repeat' (first
      | (refine NilG.mk fun bn hbn => ?_; conv => whnf)
      | (refine Both.mk ?_ ?_ <;> conv => whnf)
      | exact trivial
      | (refine Br.mk (fun hb => ?_) (fun hb => ?_) <;> (first | (exfalso; revert hb; decide) | ((try simp only [BL] at hb) <;> (try simp only [DL] at hb) <;> conv => whnf)))
      | (refine And.intro ?_ ?_; (focus (first | exact id | exact rfl | exact trivial | (intro hg; first | exact hg | exact rfl | (simp; done) | (simp at hg ⊢; assumption)) | omega | decide | exact is2_c _ _ _ | exact is1_c _ _ | exact isS_c _ _ | exact isB_c _ _ | exact Nat.le_refl _ | assumption | exact mulLe (by decide) (by omega) | exact mulLe2 (by decide) (by omega) (by omega) | (intros; simp only [BL] at *; omega) | (intros; (try simp only [BL] at *); (try simp only [DL] at *); omega) | (intros; simp only [BL] at *; rw [wr_id (by omega) (by omega)]; omega) | (intro h1 h2; exact Bool.and_eq_true_iff.2 ⟨h1, h2⟩) | (intros; simp_all; done))); conv => whnf)
      | (refine Or.inr (And.intro rfl ?_); first | (refine congrArg intV ?_) | (refine congrArg boolV ?_) | (refine tupII ?_ ?_) | (refine tupIII ?_ ?_ ?_) | (refine tupU ?_ ?_ ?_ ?_ ?_) | exact rfl))
    dsimp only
    simp only [Int.toNat_natCast]
    rw [if_neg hne', if_pos trivial]
    have hs1 : IntKind.i64.wrap (aFl a n π1 π2 t u1 + d) = aFl a n π1 π2 t u1 + d := wr_id (by omega) (by omega)
    have hs2 : IntKind.i64.wrap (aFl a n π1 π2 t u2 + d) = aFl a n π1 π2 t u2 + d := wr_id (by omega) (by omega)
    have hd0 : 0 ≤ d := by omega
    obtain ⟨dn, rfl⟩ := Int.eq_ofNat_of_zero_le hd0
    obtain ⟨hst1, hst2⟩ := hsteps dn (by omega) (by omega)
    rw [hs1, hs2]
    have hct : ((t + dn : Nat) : Int) = (t : Int) + dn := by omega
    rw [← hct] at hst2
    have hr1 : aFl a n π1 π2 t u1 + dn = (a u1).pw → aHd a true n π1 ((t + dn : Nat) : Int) = aHd a true n π1 t + 1 := fun hh => hx1 _ (by omega)
    have hr2 : aFl a n π1 π2 t u2 + dn = (a u2).pw → aHd a false n π2 ((t + dn : Nat) : Int) = aHd a false n π2 t + 1 := fun hh => hx2 _ (by omega)
    have hr3 : aFl a n π1 π2 t u1 + dn ≠ (a u1).pw → aHd a true n π1 ((t + dn : Nat) : Int) = aHd a true n π1 t := fun hh => hk1 _ (by omega) (by omega)
    have hr4 : aFl a n π1 π2 t u2 + dn ≠ (a u2).pw → aHd a false n π2 ((t + dn : Nat) : Int) = aHd a false n π2 t := fun hh => hk2 _ (by omega) (by omega)
    have hdp : 1 ≤ dn := by omega
    have hA3 : aAll a true n ≤ 3200000 := by
      have := S_le (p := fun k => S (aP a k) (aM a true k)) (a := 0) (b := 100000) (k := n) fun k hk => by
        have g1 := hall k hk
        unfold aM
        split
        · show 0 ≤ 0 + (a k).pw ∧ 0 + (a k).pw ≤ 100000; omega
        · show (0 : Int) ≤ 0 ∧ (0 : Int) ≤ 100000; decide
      unfold aAll
      omega
    conv => whnf
    repeat' (first
      | (refine NilG.mk fun bn hbn => ?_; conv => whnf)
      | (refine Both.mk ?_ ?_ <;> conv => whnf)
      | exact trivial
      | (refine Br.mk (fun hb => ?_) (fun hb => ?_) <;> (first | (exfalso; revert hb; decide) | ((try simp only [BL] at hb) <;> (try simp only [DL] at hb) <;> conv => whnf)))
      | (refine And.intro ?_ ?_; (focus (first | exact id | exact rfl | exact trivial | (intro hg; first | exact hg | exact rfl | (simp; done) | (simp at hg ⊢; assumption)) | omega | decide | exact is2_c _ _ _ | exact is1_c _ _ | exact isS_c _ _ | exact isB_c _ _ | exact Nat.le_refl _ | assumption | exact mulLe (by decide) (by omega) | exact mulLe2 (by decide) (by omega) (by omega) | (intros; simp only [BL] at *; omega) | (intros; (try simp only [BL] at *); (try simp only [DL] at *); omega) | (intros; simp only [BL] at *; rw [wr_id (by omega) (by omega)]; omega) | (intro h1 h2; exact Bool.and_eq_true_iff.2 ⟨h1, h2⟩) | (intros; simp_all; done))); conv => whnf)
      | (refine Or.inr (And.intro rfl ?_); first | (refine congrArg intV ?_) | (refine congrArg boolV ?_) | (refine tupII ?_ ?_) | (refine tupIII ?_ ?_ ?_) | (refine tupU ?_ ?_ ?_ ?_ ?_) | exact rfl))
    iterate 2
      · dsimp only
        simp only [Int.toNat_natCast]
        rw [if_pos trivial]
        conv => whnf
        repeat' (first
          | (refine NilG.mk fun bn hbn => ?_; conv => whnf)
          | (refine Both.mk ?_ ?_ <;> conv => whnf)
          | exact trivial
          | (refine Br.mk (fun hb => ?_) (fun hb => ?_) <;> (first | (exfalso; revert hb; decide) | ((try simp only [BL] at hb) <;> (try simp only [DL] at hb) <;> conv => whnf)))
          | (refine And.intro ?_ ?_; (focus (first | exact id | exact rfl | exact trivial | (intro hg; first | exact hg | exact rfl | (simp; done) | (simp at hg ⊢; assumption)) | omega | decide | exact is2_c _ _ _ | exact is1_c _ _ | exact isS_c _ _ | exact isB_c _ _ | exact Nat.le_refl _ | assumption | exact mulLe (by decide) (by omega) | exact mulLe2 (by decide) (by omega) (by omega) | (intros; simp only [BL] at *; omega) | (intros; (try simp only [BL] at *); (try simp only [DL] at *); omega) | (intros; simp only [BL] at *; rw [wr_id (by omega) (by omega)]; omega) | (intro h1 h2; exact Bool.and_eq_true_iff.2 ⟨h1, h2⟩) | (intros; simp_all; done))); conv => whnf)
          | (refine Or.inr (And.intro rfl ?_); first | (refine congrArg intV ?_) | (refine congrArg boolV ?_) | (refine tupII ?_ ?_) | (refine tupIII ?_ ?_ ?_) | (refine tupU ?_ ?_ ?_ ?_ ?_) | exact rfl))
        all_goals
          first
            | (have e1 := aTl_next hw1 (hr1 (by first | assumption | exact h0)))
            | (have e1 := aTl_keep hw1 (hr3 (by assumption)))
          first
            | (have e2 := aTl_next hw2 (hr2 (by assumption)))
            | (have e2 := aTl_keep hw2 (hr4 (by assumption)))
          have ew : IntKind.i64.wrap ((t : Int) + dn) = ((t + dn : Nat) : Int) := (wr_id (by omega) (by omega)).trans (by omega)
          refine ⟨t + dn, [0, 1, 2], hst1, by omega, ?_⟩
          refine Sub.of ?_ ?_ ?_
          repeat' (first | (exact congrArg (fun z => [intV 0, intV z, AV.own 2]) ew) | (refine And.intro ?_ ?_) | exact trivial | exact fun _ _ _ => hsc _ _ | (exact congrArg intV (by first | with_reducible rfl | with_reducible assumption)) | exact (rfl : AV.idsLt _ _ = true) | exact (rfl : _ = AV.ren _ (.own _)) | exact (rfl : _ = AV.ren _ (.fn _ _)) | exact (rfl : _ = AV.ren _ (.gh _)) | (exact congrArg intV (by assumption)) | (refine congrArg intV ((wr_id (by omega) (by omega)).trans (by omega))) | exact rfl | (simp only [Int.toNat_natCast, Int.toNat_zero, Nat.sub_zero, Nat.zero_add]; first | exact rfl | done) | exact all0 | exact fun h => Bool.noConfusion h | exact fun _ _ _ _ => rfl | omega)
          all_goals first | exact e1 | exact e2 | skip
          all_goals
            intro z hz c hc
            obtain rfl : c = 0 := by omega
            show (if z = u2 then iL (aFl a n π1 π2 t u2 + dn) else if z = u1 then iL (aFl a n π1 π2 t u1 + dn) else iL (aFl a n π1 π2 t z)) = iL (aFl a n π1 π2 ((t + dn : Nat) : Int) z)
            rw [hst2 z]
            by_cases z2 : z = u2
            · subst z2
              rw [if_pos rfl, if_neg hne', if_pos rfl, Int.add_zero]
            · rw [if_neg z2]
              have e2 : (if u2 = z then (dn : Int) else 0) = 0 := if_neg (fun e => z2 e.symm)
              by_cases z1 : z = u1
              · subst z1
                rw [if_pos rfl, if_pos rfl, e2, Int.add_zero]
              · have e1 : (if u1 = z then (dn : Int) else 0) = 0 := if_neg (fun e => z1 e.symm)
                rw [if_neg z1, e1, e2, Int.add_zero, Int.add_zero]
  · refine CallG.mk (Fn.mono (aucFitting a _ n hn32) ?_)
    rintro obs r ⟨rfl, rfl⟩
    conv => whnf
    repeat' (first
      | (refine NilG.mk fun bn hbn => ?_; conv => whnf)
      | (refine Both.mk ?_ ?_ <;> conv => whnf)
      | exact trivial
      | (refine Br.mk (fun hb => ?_) (fun hb => ?_) <;> (first | (exfalso; revert hb; decide) | ((try simp only [BL] at hb) <;> (try simp only [DL] at hb) <;> conv => whnf)))
      | (refine And.intro ?_ ?_; (focus (first | exact id | exact rfl | exact trivial | (intro hg; first | exact hg | exact rfl | (simp; done) | (simp at hg ⊢; assumption)) | omega | decide | exact is2_c _ _ _ | exact is1_c _ _ | exact isS_c _ _ | exact isB_c _ _ | exact Nat.le_refl _ | assumption | exact mulLe (by decide) (by omega) | exact mulLe2 (by decide) (by omega) (by omega) | (intros; simp only [BL] at *; omega) | (intros; (try simp only [BL] at *); (try simp only [DL] at *); omega) | (intros; simp only [BL] at *; rw [wr_id (by omega) (by omega)]; omega) | (intro h1 h2; exact Bool.and_eq_true_iff.2 ⟨h1, h2⟩) | (intros; simp_all; done))); conv => whnf)
      | (refine Or.inr (And.intro rfl ?_); first | (refine congrArg intV ?_) | (refine congrArg boolV ?_) | (refine tupII ?_ ?_) | (refine tupIII ?_ ?_ ?_) | (refine tupU ?_ ?_ ?_ ?_ ?_) | exact rfl))
    rename_i he
    exact .inr ⟨rfl, .inr ⟨h0, π1, π2, t, h, ht, hnf he, by rw [if_pos (show 0 < t by omega)]; rfl⟩⟩
  · rename_i he
    exact .inr ⟨rfl, .inr ⟨h0, π1, π2, t, h, ht, hnf he, by rw [if_neg (show ¬ 0 < t by omega)]; rfl⟩⟩
end Go.Proofs.Ytdakikgebfphmaa
