/-
  Load shedding: what the law calls.
-/
import Derived.Test.YtmhjkleknpdkgaaShdT
namespace Go.Proofs.Ytmhjkleknpdkgaa
open Go.RowKit

def actB (g : Nat → Int) (b w : Int) : Nat → Bool
  | 0 => false
  | t + 1 => actB g b w t || decide (w ≤ (runL g b (t + 1) : Int))
theorem actB_iff {g : Nat → Int} {b w : Int} (hw : 1 ≤ w) : ∀ t, actB g b w t = true ↔ actP g b w t
  | 0 => ⟨fun h => Bool.noConfusion h, fun h => absurd h (act_zero hw)⟩
  | t + 1 => by
    rw [act_succ hw, actB, Bool.or_eq_true, actB_iff hw t, decide_eq_true_eq]
abbrev sgV (s : Shs) (k : Nat) : AV := .agg [intV (s.be k), intV (s.wa k), .c (.sl 1 (s.nl k) (cS (s.ld k)))]
/-- the numbers in a window all are low -/
def winP (g : Nat → Int) (b : Int) (e w : Nat) : Prop := ∀ k, k < w → g (e - w + k) < b
theorem win_act {g : Nat → Int} {b : Int} {e w t : Nat} (h1 : w ≤ e) (h2 : e ≤ t) (h : winP g b e w) : actP g b w t :=
  ⟨e, h2, by omega, fun i h3 h4 => by
    have := h (i - (e - w)) (by omega)
    rw [show e - w + (i - (e - w)) = i by omega] at this
    exact this⟩
theorem act_win {g : Nat → Int} {b : Int} {w t : Nat} (h : actP g b w t) : ∃ e, w ≤ e ∧ e ≤ t ∧ winP g b e w := by
  obtain ⟨e, h1, h2, h3⟩ := h
  exact ⟨e, by omega, h1, fun k hk => h3 _ (by omega) (by omega)⟩
set_option maxHeartbeats 2000000 in
theorem shAct (be : Int) (w : Nat) (n : Nat) (p : Nat → ByteArray) (t : Nat) (g : Nat → Int) (hw : 1 ≤ w) (hw2 : w ≤ 60) (ht : t ≤ 1000) : Fn1 Try.prog 12 [.agg [intV be, intV w, .c (.sl 1 n (cS p))], .c (.sl 1 t (c1 g))] (boolV (actB g be w t)) := by
  refine fn_of_wpx (O := lex) tab_ok (Γ := fun _ => none) (fun _ _ h => by cases h) mixed Try.func12 (by kernel_rfl) rfl rfl rfl (by simp [Try.ntmps12]) (by kernel_rfl) ?_
  have hB := actB_iff (g := g) (b := be) (w := (w : Int)) (by omega) t
  conv => whnf
  repeat' (first
    | (refine NilG.mk fun bn hbn hbx => ?_; conv => whnf)
    | (refine Both.mk ?_ ?_ <;> conv => whnf)
    | exact trivial
    | (refine Br.mk (fun hb => ?_) (fun hb => ?_) <;> (first | (exfalso; revert hb; decide) | ((try simp only [BL] at hb) <;> (try simp only [DL] at hb) <;> conv => whnf)))
    | (refine And.intro ?_ ?_; (focus (first | exact id | exact rfl | exact trivial | (intro hg; first | exact hg | exact rfl | (simp; done) | (simp at hg ⊢; assumption)) | omega | decide | exact is2_c _ _ _ | exact is1_c _ _ | exact isS_c _ _ | exact isB_c _ _ | exact Nat.le_refl _ | assumption | exact mulLe (by decide) (by omega) | exact mulLe2 (by decide) (by omega) (by omega) | (intros; simp only [BL] at *; omega) | (intros; (try simp only [BL] at *); (try simp only [DL] at *); omega) | (intros; simp only [BL] at *; rw [wr_id (by omega) (by omega)]; omega) | (intro h1 h2; exact Bool.and_eq_true_iff.2 ⟨h1, h2⟩) | (intros; simp_all; done))); conv => whnf)
    | (refine Or.inr (And.intro rfl ?_); first | (refine congrArg intV ?_) | (refine congrArg boolV ?_) | (refine tupII ?_ ?_) | (refine tupIII ?_ ?_ ?_) | (refine tupU ?_ ?_ ?_ ?_ ?_) | exact rfl))
  refine sem_loop tab_ok gamN1_ok mixed (by kernel_rfl) (O := lex) (fun e : Nat => ⟨[(1, .c (.sl 1 t (c1 g))), (2, .lp 0 0), (5, intV e)], [.box [intV be, intV w, .c (.sl 1 n (cS p))]]⟩) (fun e => w ≤ e ∧ e ≤ max w (t + 1) ∧ ∀ e', w ≤ e' → e' < e → ¬ winP g be e' w) (fun e => t + 1 - e) ⟨w, [?_], ⟨Nat.le_refl _, by omega, fun e' h1 h2 => absurd h2 (by omega)⟩, ?_⟩ fun e he => ?_
  rotate_left 1
  · refine Sub.of ?_ ?_ ?_
    repeat' (first | (refine And.intro ?_ ?_) | exact trivial | exact fun _ _ _ => hsc _ _ | (exact congrArg intV (by first | with_reducible rfl | with_reducible assumption)) | exact (rfl : AV.idsLt _ _ = true) | exact (rfl : _ = AV.ren _ (.own _)) | exact (rfl : _ = AV.ren _ (.fn _ _)) | exact (rfl : _ = AV.ren _ (.gh _)) | (exact congrArg intV (by assumption)) | (refine congrArg intV ((wr_id (by omega) (by omega)).trans (by omega))) | exact rfl | (simp only [Int.toNat_natCast, Int.toNat_zero, Nat.sub_zero, Nat.zero_add]; first | exact rfl | done) | exact all0 | exact fun h => Bool.noConfusion h | exact fun _ _ _ _ => rfl | omega)
  obtain ⟨he1, he2, he3⟩ := he
  have eL : IntKind.i64.wrap ((e : Int) - w) = ((e - w : Nat) : Int) := (wr_id (by omega) (by omega)).trans (by omega)
  have eL2 : (IntKind.i64.wrap ((e : Int) - w)).toNat = e - w := by rw [eL]; omega
  conv => whnf
  repeat' (first
    | (refine NilG.mk fun bn hbn hbx => ?_; conv => whnf)
    | (refine Both.mk ?_ ?_ <;> conv => whnf)
    | exact trivial
    | (refine Br.mk (fun hb => ?_) (fun hb => ?_) <;> (first | (exfalso; revert hb; decide) | ((try simp only [BL] at hb) <;> (try simp only [DL] at hb) <;> (first | (exfalso; omega) | (conv => whnf)))))
    | (refine And.intro ?_ ?_; (focus (first | exact id | exact rfl | exact trivial | (intro hg; first | exact hg | exact rfl | (simp; done) | (simp at hg ⊢; assumption)) | omega | decide | exact is2_c _ _ _ | exact is1_c _ _ | exact isS_c _ _ | exact isB_c _ _ | exact Nat.le_refl _ | assumption | exact mulLe (by decide) (by omega) | exact mulLe2 (by decide) (by omega) (by omega) | (intros; simp only [BL] at *; omega) | (intros; (try simp only [BL] at *); (try simp only [DL] at *); omega) | (intros; simp only [BL] at *; rw [wr_id (by omega) (by omega)]; omega) | (intro h1 h2; exact Bool.and_eq_true_iff.2 ⟨h1, h2⟩) | first | exact ⟨rfl, by omega, by decide⟩ | (rw [eL]; omega) | (intros; simp_all; done))); conv => whnf)
    | (refine Or.inr (And.intro rfl ?_); first | (refine congrArg intV ?_) | (refine congrArg boolV ?_) | (refine tupII ?_ ?_) | (refine tupIII ?_ ?_ ?_) | (refine tupU ?_ ?_ ?_ ?_ ?_) | exact rfl))
  · have het : e ≤ t := by omega
    clear hb
    rw [eL2, show ((e : Int)).toNat - (e - w) = w by omega]
    have hb0 : true = true ↔ ∀ k, k < 0 → g (e - w + k) < be := ⟨fun _ k hk => absurd hk (Nat.not_lt_zero k), fun _ => rfl⟩
    refine sem_loop tab_ok gamN1_ok mixed (by kernel_rfl) (O := lex) (fun x : Nat × Bool => ⟨[(1, .c (.sl 1 t (c1 g))), (2, .lp 0 0), (5, intV e), (6, boolV x.2), (23, .c (.sl 1 w (c1 fun k => g (e - w + k)))), (24, intV w), (25, intV x.1)], [.box [intV be, intV w, .c (.sl 1 n (cS p))]]⟩) (fun x => x.1 ≤ w ∧ (x.2 = true ↔ ∀ k, k < x.1 → g (e - w + k) < be)) (fun x => w - x.1) ⟨(0, true), [?_], ⟨Nat.zero_le _, hb0⟩, ?_⟩ fun y hy => ?_
    rotate_left 1
    · refine Sub.of ?_ ?_ ?_
      repeat' (first | (refine And.intro ?_ ?_) | exact trivial | exact fun _ _ _ => hsc _ _ | (exact congrArg intV (by first | with_reducible rfl | with_reducible assumption)) | exact (rfl : AV.idsLt _ _ = true) | exact (rfl : _ = AV.ren _ (.own _)) | exact (rfl : _ = AV.ren _ (.fn _ _)) | exact (rfl : _ = AV.ren _ (.gh _)) | (exact congrArg intV (by assumption)) | (refine congrArg intV ((wr_id (by omega) (by omega)).trans (by omega))) | exact rfl | (simp only [Int.toNat_natCast, Int.toNat_zero, Nat.sub_zero, Nat.zero_add]; first | exact rfl | done) | exact all0 | exact fun h => Bool.noConfusion h | exact fun _ _ _ _ => rfl | omega)
    obtain ⟨j, b⟩ := y
    obtain ⟨hj, hb2⟩ := hy
    dsimp only at hj hb2 ⊢
    conv => whnf
    repeat' (first
      | (refine NilG.mk fun bn hbn hbx => ?_; conv => whnf)
      | (refine Both.mk ?_ ?_ <;> conv => whnf)
      | exact trivial
      | (refine Br.mk (fun hb => ?_) (fun hb => ?_) <;> (first | (exfalso; revert hb; decide) | ((try simp only [BL] at hb) <;> (try simp only [DL] at hb) <;> (first | (exfalso; omega) | (conv => whnf)))))
      | (refine And.intro ?_ ?_; (focus (first | exact id | exact rfl | exact trivial | (intro hg; first | exact hg | exact rfl | (simp; done) | (simp at hg ⊢; assumption)) | omega | decide | exact is2_c _ _ _ | exact is1_c _ _ | exact isS_c _ _ | exact isB_c _ _ | exact Nat.le_refl _ | assumption | exact mulLe (by decide) (by omega) | exact mulLe2 (by decide) (by omega) (by omega) | (intros; simp only [BL] at *; omega) | (intros; (try simp only [BL] at *); (try simp only [DL] at *); omega) | (intros; simp only [BL] at *; rw [wr_id (by omega) (by omega)]; omega) | (intro h1 h2; exact Bool.and_eq_true_iff.2 ⟨h1, h2⟩) | first | exact ⟨rfl, by omega, by decide⟩ | (intros; simp_all; done))); conv => whnf)
      | (refine Or.inr (And.intro rfl ?_); first | (refine congrArg intV ?_) | (refine congrArg boolV ?_) | (refine tupII ?_ ?_) | (refine tupIII ?_ ?_ ?_) | (refine tupU ?_ ?_ ?_ ?_ ?_) | exact rfl))
    · have e25 : IntKind.i64.wrap ((j : Int) + 1) = ((j + 1 : Nat) : Int) := (wr_id (by omega) (by omega)).trans (by omega)
      have hn : (b && decide (g (e - w + j) < be)) = true ↔ ∀ k, k < j + 1 → g (e - w + k) < be := by
        rw [Bool.and_eq_true, hb2, decide_eq_true_eq]
        constructor
        · rintro ⟨h1, h2⟩ k hk
          rcases Nat.lt_succ_iff_lt_or_eq.1 hk with h | rfl
          · exact h1 k h
          · exact h2
        · intro h
          exact ⟨fun k hk => h k (by omega), h j (by omega)⟩
      refine ⟨(j + 1, b && decide (g (e - w + j) < be)), [?_], ⟨by show j + 1 ≤ w; omega, hn⟩, by show w - (j + 1) < w - j; omega, ?_⟩
      rotate_left 1
      refine Sub.of ?_ ?_ ?_
      repeat' (first | (refine And.intro ?_ ?_) | exact trivial | exact fun _ _ _ => hsc _ _ | (exact congrArg intV (by first | with_reducible rfl | with_reducible assumption)) | exact (rfl : AV.idsLt _ _ = true) | exact (rfl : _ = AV.ren _ (.own _)) | exact (rfl : _ = AV.ren _ (.fn _ _)) | exact (rfl : _ = AV.ren _ (.gh _)) | (exact congrArg intV (by assumption)) | (refine congrArg intV ((wr_id (by omega) (by omega)).trans (by omega))) | exact rfl | (simp only [Int.toNat_natCast, Int.toNat_zero, Nat.sub_zero, Nat.zero_add]; first | exact rfl | done) | exact all0 | exact fun h => Bool.noConfusion h | exact fun _ _ _ _ => rfl | omega)
    · have hj7 := hb
      have h9 : actB g be w t = true := hB.2 (win_act he1 het fun k hk => hb2.1 hb k (by omega))
      exact h9.symm
    · have hw9 : ¬ winP g be e w := fun h => by
        rw [hb2.2 fun k hk => h k (by omega)] at hb
        cases hb
      have e5 : IntKind.i64.wrap ((e : Int) + 1) = ((e + 1 : Nat) : Int) := (wr_id (by omega) (by omega)).trans (by omega)
      refine ⟨e + 1, [?_], ⟨by omega, by omega, fun e' h1 h2 => by
            rcases Nat.lt_succ_iff_lt_or_eq.1 h2 with h | rfl
            · exact he3 e' h1 h
            · exact hw9⟩, by omega, ?_⟩
      rotate_left 1
      refine Sub.of ?_ ?_ ?_
      repeat' (first | (refine And.intro ?_ ?_) | exact trivial | exact fun _ _ _ => hsc _ _ | (exact congrArg intV (by first | with_reducible rfl | with_reducible assumption)) | exact (rfl : AV.idsLt _ _ = true) | exact (rfl : _ = AV.ren _ (.own _)) | exact (rfl : _ = AV.ren _ (.fn _ _)) | exact (rfl : _ = AV.ren _ (.gh _)) | (exact congrArg intV (by assumption)) | (refine congrArg intV ((wr_id (by omega) (by omega)).trans (by omega))) | exact rfl | (simp only [Int.toNat_natCast, Int.toNat_zero, Nat.sub_zero, Nat.zero_add]; first | exact rfl | done) | exact all0 | exact fun h => Bool.noConfusion h | exact fun _ _ _ _ => rfl | omega)
  · have h9 : actB g be w t = false := Bool.eq_false_iff.2 fun h => by
      obtain ⟨e', h1, h2, h3⟩ := act_win (hB.1 h)
      exact he3 e' h1 (by omega) h3
    exact h9.symm
theorem shSame (n m : Nat) (x y : Nat → ByteArray) (h : n ≤ 9000000 ∧ m = n ∧ ∀ i, i < n → x i = y i) : Fn1 Try.prog 13 [.c (.sl 1 n (cS x)), .c (.sl 1 m (cS y))] (boolV true) := by
  refine fn_of_wpx (O := lex) tab_ok (Γ := fun _ => none) (fun _ _ h => by cases h) mixed Try.func13 (by kernel_rfl) rfl rfl rfl (by simp [Try.ntmps13]) (by kernel_rfl) ?_
  obtain ⟨hn, rfl, he⟩ := h
  conv => whnf
  repeat' (first
    | (refine NilG.mk fun bn hbn hbx => ?_; conv => whnf)
    | (refine Both.mk ?_ ?_ <;> conv => whnf)
    | exact trivial
    | (refine Br.mk (fun hb => ?_) (fun hb => ?_) <;> (first | (exfalso; revert hb; decide) | ((try simp only [BL] at hb) <;> (try simp only [DL] at hb) <;> (first | (exfalso; omega) | (conv => whnf)))))
    | (refine And.intro ?_ ?_; (focus (first | exact id | exact rfl | exact trivial | (intro hg; first | exact hg | exact rfl | (simp; done) | (simp at hg ⊢; assumption)) | omega | decide | exact is2_c _ _ _ | exact is1_c _ _ | exact isS_c _ _ | exact isB_c _ _ | exact Nat.le_refl _ | assumption | exact mulLe (by decide) (by omega) | exact mulLe2 (by decide) (by omega) (by omega) | (intros; simp only [BL] at *; omega) | (intros; (try simp only [BL] at *); (try simp only [DL] at *); omega) | (intros; simp only [BL] at *; rw [wr_id (by omega) (by omega)]; omega) | (intro h1 h2; exact Bool.and_eq_true_iff.2 ⟨h1, h2⟩) | (intros; simp_all; done))); conv => whnf)
    | (refine Or.inr (And.intro rfl ?_); first | (refine congrArg intV ?_) | (refine congrArg boolV ?_) | (refine tupII ?_ ?_) | (refine tupIII ?_ ?_ ?_) | (refine tupU ?_ ?_ ?_ ?_ ?_) | exact rfl))
  · exact absurd trivial hb
  refine sem_loop tab_ok gamN1_ok mixed (by kernel_rfl) (O := lex) (fun i : Nat => ⟨[(0, .c (.sl 1 m (cS x))), (1, .c (.sl 1 m (cS y))), (12, intV m), (13, intV i)], []⟩) (fun i => i ≤ m) (fun i => m - i) ⟨0, [], Nat.zero_le _, ?_⟩ fun i hi => ?_
  · refine Sub.of ?_ ?_ ?_
    repeat' (first | (refine And.intro ?_ ?_) | exact trivial | exact fun _ _ _ => hsc _ _ | (exact congrArg intV (by first | with_reducible rfl | with_reducible assumption)) | exact (rfl : AV.idsLt _ _ = true) | exact (rfl : _ = AV.ren _ (.own _)) | exact (rfl : _ = AV.ren _ (.fn _ _)) | exact (rfl : _ = AV.ren _ (.gh _)) | (exact congrArg intV (by assumption)) | (refine congrArg intV ((wr_id (by omega) (by omega)).trans (by omega))) | exact rfl | (simp only [Int.toNat_natCast, Int.toNat_zero, Nat.sub_zero, Nat.zero_add]; first | exact rfl | done) | exact all0 | exact fun h => Bool.noConfusion h | exact fun _ _ _ _ => rfl | omega)
  conv => whnf
  repeat' (first
    | (refine NilG.mk fun bn hbn hbx => ?_; conv => whnf)
    | (refine Both.mk ?_ ?_ <;> conv => whnf)
    | exact trivial
    | (refine Br.mk (fun hb => ?_) (fun hb => ?_) <;> (first | (exfalso; revert hb; decide) | ((try simp only [BL] at hb) <;> (try simp only [DL] at hb) <;> (first | (exfalso; omega) | (conv => whnf)))))
    | (refine And.intro ?_ ?_; (focus (first | exact id | exact rfl | exact trivial | (intro hg; first | exact hg | exact rfl | (simp; done) | (simp at hg ⊢; assumption)) | omega | decide | exact is2_c _ _ _ | exact is1_c _ _ | exact isS_c _ _ | exact isB_c _ _ | exact Nat.le_refl _ | assumption | exact mulLe (by decide) (by omega) | exact mulLe2 (by decide) (by omega) (by omega) | (intros; simp only [BL] at *; omega) | (intros; (try simp only [BL] at *); (try simp only [DL] at *); omega) | (intros; simp only [BL] at *; rw [wr_id (by omega) (by omega)]; omega) | (intro h1 h2; exact Bool.and_eq_true_iff.2 ⟨h1, h2⟩) | (intros; simp_all; done))); conv => whnf)
    | (refine Or.inr (And.intro rfl ?_); first | (refine congrArg intV ?_) | (refine congrArg boolV ?_) | (refine tupII ?_ ?_) | (refine tupIII ?_ ?_ ?_) | (refine tupU ?_ ?_ ?_ ?_ ?_) | exact rfl))
  · rw [he i (by omega)] at hb
    exfalso
    simp at hb
  · refine ⟨i + 1, [], by omega, by omega, ?_⟩
    refine Sub.of ?_ ?_ ?_
    repeat' (first | (refine And.intro ?_ ?_) | exact trivial | exact fun _ _ _ => hsc _ _ | (exact congrArg intV (by first | with_reducible rfl | with_reducible assumption)) | exact (rfl : AV.idsLt _ _ = true) | exact (rfl : _ = AV.ren _ (.own _)) | exact (rfl : _ = AV.ren _ (.fn _ _)) | exact (rfl : _ = AV.ren _ (.gh _)) | (exact congrArg intV (by assumption)) | (refine congrArg intV ((wr_id (by omega) (by omega)).trans (by omega))) | exact rfl | (simp only [Int.toNat_natCast, Int.toNat_zero, Nat.sub_zero, Nat.zero_add]; first | exact rfl | done) | exact all0 | exact fun h => Bool.noConfusion h | exact fun _ _ _ _ => rfl | omega)
  · rfl
theorem shEql (n m : Nat) (x y : Nat → ByteArray) (h : n ≤ 9000000 ∧ m = n ∧ ∀ i, i < n → x i = y i) : Fn1 Try.prog 8 [.c (.sl 1 n (cS x)), .c (.sl 1 m (cS y))] (boolV true) := by
  refine fn_of_wpx (O := lex) tab_ok (Γ := fun _ => none) (fun _ _ h => by cases h) mixed Try.func8 (by kernel_rfl) rfl rfl rfl (by simp [Try.ntmps8]) (by kernel_rfl) ?_
  obtain ⟨hn, rfl, he⟩ := h
  conv => whnf
  repeat' (first
    | (refine NilG.mk fun bn hbn hbx => ?_; conv => whnf)
    | (refine Both.mk ?_ ?_ <;> conv => whnf)
    | exact trivial
    | (refine Br.mk (fun hb => ?_) (fun hb => ?_) <;> (first | (exfalso; revert hb; decide) | ((try simp only [BL] at hb) <;> (try simp only [DL] at hb) <;> (first | (exfalso; omega) | (conv => whnf)))))
    | (refine And.intro ?_ ?_; (focus (first | exact id | exact rfl | exact trivial | (intro hg; first | exact hg | exact rfl | (simp; done) | (simp at hg ⊢; assumption)) | omega | decide | exact is2_c _ _ _ | exact is1_c _ _ | exact isS_c _ _ | exact isB_c _ _ | exact Nat.le_refl _ | assumption | exact mulLe (by decide) (by omega) | exact mulLe2 (by decide) (by omega) (by omega) | (intros; simp only [BL] at *; omega) | (intros; (try simp only [BL] at *); (try simp only [DL] at *); omega) | (intros; simp only [BL] at *; rw [wr_id (by omega) (by omega)]; omega) | (intro h1 h2; exact Bool.and_eq_true_iff.2 ⟨h1, h2⟩) | (intros; simp_all; done))); conv => whnf)
    | (refine Or.inr (And.intro rfl ?_); first | (refine congrArg intV ?_) | (refine congrArg boolV ?_) | (refine tupII ?_ ?_) | (refine tupIII ?_ ?_ ?_) | (refine tupU ?_ ?_ ?_ ?_ ?_) | exact rfl))
  · exact absurd trivial hb
  refine sem_loop tab_ok gamN1_ok mixed (by kernel_rfl) (O := lex) (fun i : Nat => ⟨[(0, .c (.sl 1 m (cS x))), (1, .c (.sl 1 m (cS y))), (12, intV m), (13, intV i)], []⟩) (fun i => i ≤ m) (fun i => m - i) ⟨0, [], Nat.zero_le _, ?_⟩ fun i hi => ?_
  · refine Sub.of ?_ ?_ ?_
    repeat' (first | (refine And.intro ?_ ?_) | exact trivial | exact fun _ _ _ => hsc _ _ | (exact congrArg intV (by first | with_reducible rfl | with_reducible assumption)) | exact (rfl : AV.idsLt _ _ = true) | exact (rfl : _ = AV.ren _ (.own _)) | exact (rfl : _ = AV.ren _ (.fn _ _)) | exact (rfl : _ = AV.ren _ (.gh _)) | (exact congrArg intV (by assumption)) | (refine congrArg intV ((wr_id (by omega) (by omega)).trans (by omega))) | exact rfl | (simp only [Int.toNat_natCast, Int.toNat_zero, Nat.sub_zero, Nat.zero_add]; first | exact rfl | done) | exact all0 | exact fun h => Bool.noConfusion h | exact fun _ _ _ _ => rfl | omega)
  conv => whnf
  repeat' (first
    | (refine NilG.mk fun bn hbn hbx => ?_; conv => whnf)
    | (refine Both.mk ?_ ?_ <;> conv => whnf)
    | exact trivial
    | (refine Br.mk (fun hb => ?_) (fun hb => ?_) <;> (first | (exfalso; revert hb; decide) | ((try simp only [BL] at hb) <;> (try simp only [DL] at hb) <;> (first | (exfalso; omega) | (conv => whnf)))))
    | (refine And.intro ?_ ?_; (focus (first | exact id | exact rfl | exact trivial | (intro hg; first | exact hg | exact rfl | (simp; done) | (simp at hg ⊢; assumption)) | omega | decide | exact is2_c _ _ _ | exact is1_c _ _ | exact isS_c _ _ | exact isB_c _ _ | exact Nat.le_refl _ | assumption | exact mulLe (by decide) (by omega) | exact mulLe2 (by decide) (by omega) (by omega) | (intros; simp only [BL] at *; omega) | (intros; (try simp only [BL] at *); (try simp only [DL] at *); omega) | (intros; simp only [BL] at *; rw [wr_id (by omega) (by omega)]; omega) | (intro h1 h2; exact Bool.and_eq_true_iff.2 ⟨h1, h2⟩) | (intros; simp_all; done))); conv => whnf)
    | (refine Or.inr (And.intro rfl ?_); first | (refine congrArg intV ?_) | (refine congrArg boolV ?_) | (refine tupII ?_ ?_) | (refine tupIII ?_ ?_ ?_) | (refine tupU ?_ ?_ ?_ ?_ ?_) | exact rfl))
  · rw [he i (by omega)] at hb
    exfalso
    simp at hb
  · refine ⟨i + 1, [], by omega, by omega, ?_⟩
    refine Sub.of ?_ ?_ ?_
    repeat' (first | (refine And.intro ?_ ?_) | exact trivial | exact fun _ _ _ => hsc _ _ | (exact congrArg intV (by first | with_reducible rfl | with_reducible assumption)) | exact (rfl : AV.idsLt _ _ = true) | exact (rfl : _ = AV.ren _ (.own _)) | exact (rfl : _ = AV.ren _ (.fn _ _)) | exact (rfl : _ = AV.ren _ (.gh _)) | (exact congrArg intV (by assumption)) | (refine congrArg intV ((wr_id (by omega) (by omega)).trans (by omega))) | exact rfl | (simp only [Int.toNat_natCast, Int.toNat_zero, Nat.sub_zero, Nat.zero_add]; first | exact rfl | done) | exact all0 | exact fun h => Bool.noConfusion h | exact fun _ _ _ _ => rfl | omega)
  · rfl
def sSS : List AV → Sd × AV
  | [.c (.sl 1 n f), .c (.sl 1 m g)] => (.p (isS n f ∧ isS m g ∧ n ≤ 9000000 ∧ m = n ∧ ∀ i, i < n → dS f i = dS g i), boolV true)
  | _ => (.p False, .top)
def sAct : List AV → Sd × AV
  | [.agg [.c (.v (.int .i64 b)), .c (.v (.int .i64 w)), .c (.sl 1 n p)], .c (.sl 1 t g)] => (.p (isS n p ∧ is1 t g ∧ 1 ≤ w ∧ w ≤ 60 ∧ t ≤ 1000), boolV (actB (d0 g) b w t))
  | _ => (.p False, .top)
def gamSl : Gam := fun f => match f with
  | 11 => some (s3 inB)
  | 13 => some sSS
  | 8 => some sSS
  | 12 => some sAct
  | _ => none
theorem gamSl_ok : GOk Try.prog gamSl := fun f g h => by
  unfold gamSl at h
  split at h
  · injection h with h; subst h; exact s3_ok in4
  · injection h with h; subst h
    intro args hs _
    unfold sSS at hs ⊢
    split at hs
    · exact (shSame _ _ _ _ hs.2.2).le (Le.cons (Le1.sl hs.1) (Le.cons (Le1.sl hs.2.1) Le.nil))
    · exact hs.elim
  · injection h with h; subst h
    intro args hs _
    unfold sSS at hs ⊢
    split at hs
    · exact (shEql _ _ _ _ hs.2.2).le (Le.cons (Le1.sl hs.1) (Le.cons (Le1.sl hs.2.1) Le.nil))
    · exact hs.elim
  · injection h with h; subst h
    intro args hs _
    unfold sAct at hs ⊢
    split at hs
    · rename_i b w n p t g _
      obtain ⟨h1, h2, h3, h4, h5⟩ := hs
      obtain ⟨w, rfl⟩ : ∃ w' : Nat, w = (w' : Int) := ⟨w.toNat, by omega⟩
      exact (shAct b w n (dS p) t (d0 g) (by omega) (by omega) h5).le (Le.cons (Le1.agg (Le.cons (Le1.refl _) (Le.cons (Le1.refl _) (Le.cons (Le1.sl h1) Le.nil)))) (Le.cons (Le1.sl h2) Le.nil))
    · exact hs.elim
  · cases h
/-- the counts after t numbers -/
def cnF (s : Shs) (g : Nat → Int) (t : Nat) (k : Nat) : Int := min (runL g (s.be k) t : Int) (s.wa k)
/-- what is known of the stages that have acted -/
def acOk (s : Shs) (g : Nat → Int) (t : Nat) (ac : List Nat) : Prop := ac.length ≤ 8 * t ∧ (∀ k, k ∈ ac → k < s.m) ∧ ∀ k, k < s.m → (k ∈ ac ↔ actP g (s.be k) (s.wa k) t)
def psh (g : Nat → Int) (t : Nat) (f : Int) : Nat → Int := fun k => if k < t then g k else f
theorem psh_run (g : Nat → Int) (t : Nat) (f b : Int) : runL (psh g t f) b t = runL g b t := run_congr fun i hi => if_pos hi
theorem psh_act (g : Nat → Int) (t : Nat) (f b w : Int) : actP (psh g t f) b w t ↔ actP g b w t := ⟨act_congr fun i hi => if_pos hi, act_congr fun i hi => (if_pos hi).symm⟩
theorem cn_next {s : Shs} {g : Nat → Int} {t : Nat} {f : Int} {k : Nat} (hr : rgB s k) : cn1 s (cnF s g t) f k = cnF s (psh g t f) (t + 1) k := by
  obtain ⟨-, h1, h2⟩ := hr
  have e : psh g t f t = f := if_neg (Nat.lt_irrefl t)
  unfold cn1 cnF
  simp only [runL]
  rw [e, psh_run]
  by_cases h : f < s.be k
  · rw [if_neg (by omega), if_pos h]; omega
  · rw [if_pos (by omega), if_neg h]; omega
theorem nw_iff {s : Shs} {g : Nat → Int} {t : Nat} {f : Int} {ac : List Nat} {k : Nat} (hr : rgB s k) (hk : k < s.m) (h : acOk s g t ac) : nwP s (cnF s g t) f ac k ↔ actP (psh g t f) (s.be k) (s.wa k) (t + 1) ∧ ¬ actP (psh g t f) (s.be k) (s.wa k) t := by
  have hr2 := hr
  obtain ⟨-, h1, h2⟩ := hr2
  have e : psh g t f t = f := if_neg (Nat.lt_irrefl t)
  rw [act_succ h1, psh_act, ← h.2.2 k hk]
  unfold nwP
  rw [cn_next hr]
  unfold cnF
  simp only [runL]
  rw [e]
  by_cases hf : f < s.be k
  · rw [if_pos hf]
    constructor
    · rintro ⟨-, h3, h4⟩; exact ⟨.inr (by omega), h4⟩
    · rintro ⟨h3 | h3, h4⟩
      · exact absurd h3 h4
      · exact ⟨hf, by omega, h4⟩
  · rw [if_neg hf]
    constructor
    · rintro ⟨h3, -⟩; exact absurd h3 hf
    · rintro ⟨h3 | h3, h4⟩
      · exact absurd h3 h4
      · exfalso; omega
theorem nwL_mem {s : Shs} {cnt : Nat → Int} {f : Int} {ac : List Nat} {j : Nat} : ∀ {k : Nat}, j ∈ nwL s cnt f ac k ↔ j < k ∧ nwP s cnt f ac j
  | 0 => ⟨fun h => (List.not_mem_nil h).elim, fun h => absurd h.1 (Nat.not_lt_zero j)⟩
  | k + 1 => by
    simp only [nwL]
    have ih := nwL_mem (s := s) (cnt := cnt) (f := f) (ac := ac) (j := j) (k := k)
    by_cases hp : nwP s cnt f ac k
    · rw [if_pos hp, List.mem_append, ih, List.mem_singleton]
      constructor
      · rintro (⟨h1, h2⟩ | rfl)
        · exact ⟨by omega, h2⟩
        · exact ⟨by omega, hp⟩
      · rintro ⟨h1, h2⟩
        by_cases e : j = k
        · exact .inr e
        · exact .inl ⟨by omega, h2⟩
    · rw [if_neg hp, ih]
      constructor
      · rintro ⟨h1, h2⟩; exact ⟨by omega, h2⟩
      · rintro ⟨h1, h2⟩
        by_cases e : j = k
        · subst e; exact absurd h2 hp
        · exact ⟨by omega, h2⟩
theorem ac_next {s : Shs} {g : Nat → Int} {t : Nat} {f : Int} {ac : List Nat} (h8 : s.m ≤ 8) (hr : ∀ k, k < s.m → rgB s k) (h : acOk s g t ac) : acOk s (psh g t f) (t + 1) (ac ++ nwL s (cnF s g t) f ac s.m) := by
  refine ⟨?_, fun k hk => ?_, fun k hk => ?_⟩
  · have := h.1
    have := nwL_len (s := s) (cnt := cnF s g t) (f := f) (ac := ac) s.m
    rw [List.length_append]; omega
  · rcases List.mem_append.1 hk with h1 | h1
    · exact h.2.1 k h1
    · exact nwL_lt h1
  · rw [List.mem_append, nwL_mem, nw_iff (hr k hk) hk h, h.2.2 k hk, act_succ (hr k hk).2.1, psh_act]
    constructor
    · rintro (h1 | ⟨-, h1, -⟩)
      · exact .inl h1
      · exact h1
    · intro h1
      by_cases h2 : actP g (s.be k) (s.wa k) t
      · exact .inl h2
      · exact .inr ⟨hk, h1, h2⟩
end Go.Proofs.Ytmhjkleknpdkgaa
