/-
  The package upkeep: the reference's error and cost of a plan.
-/
import Derived.Test.YtkkkldhilofgmaaUpk3
namespace Go.Proofs.Ytkkkldhilofgmaa
open Go.RowKit

set_option maxHeartbeats 2000000 in
theorem upPlan (t : Tsk) (x : Nat → Int) (nx : Nat) (h0 : tskE t = 0) (hnx : nx ≤ maxLen) : Fn1 Try.prog 12 [tV t, .c (.sl 1 nx (c1 x))] (intV (plE t x nx)) := by
  refine fn_of_wpx (O := lex) tab_ok gamK4_ok mixed Try.func12 (by kernel_rfl) rfl rfl rfl (by simp [Try.ntmps12]) (by kernel_rfl) ?_
  have hnx' : nx ≤ 9223372036854775807 := hnx
  obtain ⟨hn6, hm6, hc1, hc6, hj, hp⟩ := tskE_zero h0
  have hbj : ∀ k, k < t.n → 0 ≤ t.ff k ∧ t.la k ≤ 60 ∧ 0 ≤ t.we k ∧ t.we k ≤ 1000 ∧ 1 ≤ t.lg k ∧ t.lg k ≤ 60 := fun k hk => by have := hj k hk; unfold badJ at this; omega
  conv => whnf
  repeat' (first
    | (refine NilG.mk fun bn hbn hbx => ?_; conv => whnf)
    | (refine Both.mk ?_ ?_ <;> conv => whnf)
    | exact trivial
    | (refine Br.mk (fun hb => ?_) (fun hb => ?_) <;> (first | (exfalso; revert hb; decide) | ((try simp only [BL] at hb) <;> (try simp only [DL] at hb) <;> conv => whnf)))
    | (refine And.intro ?_ ?_; (focus (first | exact id | exact rfl | exact trivial | (intro hg; first | exact hg | exact rfl | (simp; done) | (simp at hg ⊢; assumption)) | omega | decide | exact is2_c _ _ _ | exact is1_c _ _ | exact isS_c _ _ | exact isB_c _ _ | exact Nat.le_refl _ | assumption | exact mulLe (by decide) (by omega) | exact mulLe2 (by decide) (by omega) (by omega) | (intros; simp only [BL] at *; omega) | (intros; (try simp only [BL] at *); (try simp only [DL] at *); omega) | (intros; simp only [BL] at *; rw [wr_id (by omega) (by omega)]; omega) | (intro h1 h2; exact Bool.and_eq_true_iff.2 ⟨h1, h2⟩) | (intros; simp_all; done))); conv => whnf)
    | (refine Or.inr (And.intro rfl ?_); first | (refine congrArg intV ?_) | (refine congrArg boolV ?_) | (refine tupII ?_ ?_) | (refine tupIII ?_ ?_ ?_) | (refine tupU ?_ ?_ ?_ ?_ ?_) | exact rfl))
  · unfold plE
    rw [if_pos (by omega)]
  obtain rfl : nx = t.n := by omega
  have hE : plE t x t.n = if fst (dyE t x) t.n ≠ 0 then fst (dyE t x) t.n else fst (wrE t x) t.n := by unfold plE; rw [if_neg (fun h => h rfl)]
  clear hb
  refine sem_loop tab_ok gamK4_ok mixed (by kernel_rfl) (O := lex) (fun i : Nat => ⟨[(23, intV i), (22, intV t.n), (21, .c (.sl 1 t.n (c1 x))), (2, .lp 0 0), (3, .lp 1 0)], [tB t, .box [.c (.sl 1 t.n (c1 x))]]⟩) (fun i => i ≤ t.n ∧ fst (dyE t x) i = 0) (fun i => t.n - i) ⟨0, [?_, ?_], ⟨Nat.zero_le _, rfl⟩, ?_⟩ fun i hi => ?_
  rotate_left 2
  · refine Sub.of ?_ ?_ ?_
    repeat' (first | (refine And.intro ?_ ?_) | exact trivial | exact fun _ _ _ => hsc _ _ | (exact congrArg intV (by first | with_reducible rfl | with_reducible assumption)) | exact (rfl : AV.idsLt _ _ = true) | exact (rfl : _ = AV.ren _ (.own _)) | exact (rfl : _ = AV.ren _ (.fn _ _)) | exact (rfl : _ = AV.ren _ (.gh _)) | (exact congrArg intV (by assumption)) | (refine congrArg intV ((wr_id (by omega) (by omega)).trans (by omega))) | exact rfl | (simp only [Int.toNat_natCast, Int.toNat_zero, Nat.sub_zero, Nat.zero_add]; first | exact rfl | done) | exact all0 | exact fun h => Bool.noConfusion h | exact fun _ _ _ _ => rfl | omega)
  conv => whnf
  repeat' (first
    | (refine NilG.mk fun bn hbn hbx => ?_; conv => whnf)
    | (refine Both.mk ?_ ?_ <;> conv => whnf)
    | exact trivial
    | (refine Br.mk (fun hb => ?_) (fun hb => ?_) <;> (first | (exfalso; revert hb; decide) | ((try simp only [BL] at hb) <;> (try simp only [DL] at hb) <;> conv => whnf)))
    | (refine And.intro ?_ ?_; (focus (first | exact id | exact rfl | exact trivial | (intro hg; first | exact hg | exact rfl | (simp; done) | (simp at hg ⊢; assumption)) | omega | decide | exact is2_c _ _ _ | exact is1_c _ _ | exact isS_c _ _ | exact isB_c _ _ | exact Nat.le_refl _ | assumption | exact mulLe (by decide) (by omega) | exact mulLe2 (by decide) (by omega) (by omega) | (intros; simp only [BL] at *; omega) | (intros; (try simp only [BL] at *); (try simp only [DL] at *); omega) | (intros; simp only [BL] at *; rw [wr_id (by omega) (by omega)]; omega) | (intro h1 h2; exact Bool.and_eq_true_iff.2 ⟨h1, h2⟩) | (intros; simp_all; done))); conv => whnf)
    | (refine Or.inr (And.intro rfl ?_); first | (refine congrArg intV ?_) | (refine congrArg boolV ?_) | (refine tupII ?_ ?_) | (refine tupIII ?_ ?_ ?_) | (refine tupU ?_ ?_ ?_ ?_ ?_) | exact rfl))
  · have h1 : dyE t x i = 12 := by unfold dyE; rw [if_pos (by omega)]
    rw [hE, fst_at hi.2 (by rw [h1]; decide) (by omega), h1]; rfl
  · have h1 : dyE t x i = 0 := by unfold dyE; rw [if_neg (by omega)]
    refine ⟨i + 1, [?_, ?_], ⟨by omega, fst_next hi.2 h1⟩, by omega, ?_⟩
    rotate_left 2
    refine Sub.of ?_ ?_ ?_
    repeat' (first | (refine And.intro ?_ ?_) | exact trivial | exact fun _ _ _ => hsc _ _ | (exact congrArg intV (by first | with_reducible rfl | with_reducible assumption)) | exact (rfl : AV.idsLt _ _ = true) | exact (rfl : _ = AV.ren _ (.own _)) | exact (rfl : _ = AV.ren _ (.fn _ _)) | exact (rfl : _ = AV.ren _ (.gh _)) | (exact congrArg intV (by assumption)) | (refine congrArg intV ((wr_id (by omega) (by omega)).trans (by omega))) | exact rfl | (simp only [Int.toNat_natCast, Int.toNat_zero, Nat.sub_zero, Nat.zero_add]; first | exact rfl | done) | exact all0 | exact fun h => Bool.noConfusion h | exact fun _ _ _ _ => rfl | omega)
  obtain rfl : i = t.n := by omega
  clear hb
  have hd0 := hi.2
  have hE2 : plE t x t.n = fst (wrE t x) t.n := by rw [hE, if_neg (fun h => h hd0)]
  have hx60 : ∀ k, k < t.n → 0 ≤ x k ∧ x k ≤ 60 := fun k hk => by have := dyE_zero (fst_zero hd0 k hk); have := hbj k hk; omega
  refine sem_loop tab_ok gamK4_ok mixed (by kernel_rfl) (O := lex) (fun k : Nat => ⟨[(47, intV k), (46, intV t.n), (2, .lp 0 0), (7, .fn 61 [.lp 1 0, .lp 0 0])], [tB t, .box [.c (.sl 1 t.n (c1 x))]]⟩) (fun k => k ≤ t.n ∧ fst (wrE t x) k = 0) (fun k => t.n - k) ⟨0, [?_, ?_], ⟨Nat.zero_le _, rfl⟩, ?_⟩ fun k hk => ?_
  rotate_left 2
  · refine Sub.of ?_ ?_ ?_
    repeat' (first | (refine And.intro ?_ ?_) | exact trivial | exact fun _ _ _ => hsc _ _ | (exact congrArg intV (by first | with_reducible rfl | with_reducible assumption)) | exact (rfl : AV.idsLt _ _ = true) | exact (rfl : _ = AV.ren _ (.own _)) | exact (rfl : _ = AV.ren _ (.fn _ _)) | exact (rfl : _ = AV.ren _ (.gh _)) | (exact congrArg intV (by assumption)) | (refine congrArg intV ((wr_id (by omega) (by omega)).trans (by omega))) | exact rfl | (simp only [Int.toNat_natCast, Int.toNat_zero, Nat.sub_zero, Nat.zero_add]; first | exact rfl | done) | exact all0 | exact fun h => Bool.noConfusion h | exact fun _ _ _ _ => rfl | omega)
  conv => whnf
  repeat' (first
    | (refine NilG.mk fun bn hbn hbx => ?_; conv => whnf)
    | (refine Both.mk ?_ ?_ <;> conv => whnf)
    | exact trivial
    | (refine Br.mk (fun hb => ?_) (fun hb => ?_) <;> (first | (exfalso; revert hb; decide) | ((try simp only [BL] at hb) <;> (try simp only [DL] at hb) <;> conv => whnf)))
    | (refine And.intro ?_ ?_; (focus (first | exact id | exact rfl | exact trivial | (intro hg; first | exact hg | exact rfl | (simp; done) | (simp at hg ⊢; assumption)) | omega | decide | exact is2_c _ _ _ | exact is1_c _ _ | exact isS_c _ _ | exact isB_c _ _ | exact Nat.le_refl _ | assumption | exact mulLe (by decide) (by omega) | exact mulLe2 (by decide) (by omega) (by omega) | (intros; simp only [BL] at *; omega) | (intros; (try simp only [BL] at *); (try simp only [DL] at *); omega) | (intros; simp only [BL] at *; rw [wr_id (by omega) (by omega)]; omega) | (intro h1 h2; exact Bool.and_eq_true_iff.2 ⟨h1, h2⟩) | (intros; simp_all; done))); conv => whnf)
    | (refine Or.inr (And.intro rfl ?_); first | (refine congrArg intV ?_) | (refine congrArg boolV ?_) | (refine tupII ?_ ?_) | (refine tupIII ?_ ?_ ?_) | (refine tupU ?_ ?_ ?_ ?_ ?_) | exact rfl))
  · have hkn : k < t.n := by omega
    clear hb
    have hxk := hx60 k hkn
    have hlk := hbj k hkn
    have hbs : ∀ (K : Int) (d : Int), 0 ≤ K → K < t.n → Fn1 Try.prog 61 [intV K, intV d, xX t.n x, tX t] (boolV (bsy t x K.toNat d)) := fun K d h1 h2 => upBusy t x K.toNat K d (by omega) (by omega) (by omega) (hx60 _ (by omega)) (by have := hbj K.toNat (by omega); omega)
    refine sem_loop tab_ok gamK4_ok mixed (by kernel_rfl) (O := lex) (fun d : Nat => ⟨[(50, intV d), (8, intV k), (47, intV k), (46, intV t.n), (2, .lp 0 0), (7, .fn 61 [.lp 1 0, .lp 0 0])], [tB t, .box [.c (.sl 1 t.n (c1 x))]]⟩) (fun d => d ≤ 121 ∧ ∀ d' j : Nat, d' < d → j < t.m → ¬ hitD t x k d' j) (fun d => 121 - d) ⟨0, [?_, ?_], ⟨Nat.zero_le _, fun d' j h => absurd h (Nat.not_lt_zero _)⟩, ?_⟩ fun d hd => ?_
    rotate_left 2
    · refine Sub.of ?_ ?_ ?_
      repeat' (first | (refine And.intro ?_ ?_) | exact trivial | exact fun _ _ _ => hsc _ _ | (exact congrArg intV (by first | with_reducible rfl | with_reducible assumption)) | exact (rfl : AV.idsLt _ _ = true) | exact (rfl : _ = AV.ren _ (.own _)) | exact (rfl : _ = AV.ren _ (.fn _ _)) | exact (rfl : _ = AV.ren _ (.gh _)) | (exact congrArg intV (by assumption)) | (refine congrArg intV ((wr_id (by omega) (by omega)).trans (by omega))) | exact rfl | (simp only [Int.toNat_natCast, Int.toNat_zero, Nat.sub_zero, Nat.zero_add]; first | exact rfl | done) | exact all0 | exact fun h => Bool.noConfusion h | exact fun _ _ _ _ => rfl | omega)
    conv => whnf
    repeat' (first
      | (refine NilG.mk fun bn hbn hbx => ?_; conv => whnf)
      | (refine Both.mk ?_ ?_ <;> conv => whnf)
      | exact trivial
      | (refine Br.mk (fun hb => ?_) (fun hb => ?_) <;> (first | (exfalso; revert hb; decide) | ((try simp only [BL] at hb) <;> (try simp only [DL] at hb) <;> conv => whnf)))
      | (refine And.intro ?_ ?_; (focus (first | exact id | exact rfl | exact trivial | (intro hg; first | exact hg | exact rfl | (simp; done) | (simp at hg ⊢; assumption)) | omega | decide | exact is2_c _ _ _ | exact is1_c _ _ | exact isS_c _ _ | exact isB_c _ _ | exact Nat.le_refl _ | assumption | exact mulLe (by decide) (by omega) | exact mulLe2 (by decide) (by omega) (by omega) | (intros; simp only [BL] at *; omega) | (intros; (try simp only [BL] at *); (try simp only [DL] at *); omega) | (intros; simp only [BL] at *; rw [wr_id (by omega) (by omega)]; omega) | (intro h1 h2; exact Bool.and_eq_true_iff.2 ⟨h1, h2⟩) | (intros; simp_all; done))); conv => whnf)
      | (refine Or.inr (And.intro rfl ?_); first | (refine congrArg intV ?_) | (refine congrArg boolV ?_) | (refine tupII ?_ ?_) | (refine tupIII ?_ ?_ ?_) | (refine tupU ?_ ?_ ?_ ?_ ?_) | exact rfl))
    · have hdn : d < 121 := by omega
      clear hb
      refine sem_loop tab_ok gamK4_ok mixed (by kernel_rfl) (O := lex) (fun j : Nat => ⟨[(56, intV j), (55, intV t.m), (54, .c (.sl 2 t.m (c2 t.a t.b))), (9, intV d), (50, intV d), (8, intV k), (47, intV k), (46, intV t.n), (2, .lp 0 0), (7, .fn 61 [.lp 1 0, .lp 0 0])], [tB t, .box [.c (.sl 1 t.n (c1 x))]]⟩) (fun j => j ≤ t.m ∧ ∀ j' : Nat, j' < j → ¬ hitD t x k d j') (fun j => t.m - j) ⟨0, [?_, ?_], ⟨Nat.zero_le _, fun j' h => absurd h (Nat.not_lt_zero _)⟩, ?_⟩ fun j hj' => ?_
      rotate_left 2
      · refine Sub.of ?_ ?_ ?_
        repeat' (first | (refine And.intro ?_ ?_) | exact trivial | exact fun _ _ _ => hsc _ _ | (exact congrArg intV (by first | with_reducible rfl | with_reducible assumption)) | exact (rfl : AV.idsLt _ _ = true) | exact (rfl : _ = AV.ren _ (.own _)) | exact (rfl : _ = AV.ren _ (.fn _ _)) | exact (rfl : _ = AV.ren _ (.gh _)) | (exact congrArg intV (by assumption)) | (refine congrArg intV ((wr_id (by omega) (by omega)).trans (by omega))) | exact rfl | (simp only [Int.toNat_natCast, Int.toNat_zero, Nat.sub_zero, Nat.zero_add]; first | exact rfl | done) | exact all0 | exact fun h => Bool.noConfusion h | exact fun _ _ _ _ => rfl | omega)
      have hpj := fun h : j < t.m => hp j h
      conv => whnf
      repeat' (first
        | (refine NilG.mk fun bn hbn hbx => ?_; conv => whnf)
        | (refine Both.mk ?_ ?_ <;> conv => whnf)
        | exact trivial
        | (refine Br.mk (fun hb => ?_) (fun hb => ?_) <;> (first | (exfalso; revert hb; decide) | ((try simp only [BL] at hb) <;> (try simp only [DL] at hb) <;> conv => whnf)))
        | (refine And.intro ?_ ?_; (focus (first | exact id | exact rfl | exact trivial | (intro hg; first | exact hg | exact rfl | (simp; done) | (simp at hg ⊢; assumption)) | omega | decide | exact is2_c _ _ _ | exact is1_c _ _ | exact isS_c _ _ | exact isB_c _ _ | exact Nat.le_refl _ | assumption | exact mulLe (by decide) (by omega) | exact mulLe2 (by decide) (by omega) (by omega) | (intros; simp only [BL] at *; omega) | (intros; (try simp only [BL] at *); (try simp only [DL] at *); omega) | (intros; simp only [BL] at *; rw [wr_id (by omega) (by omega)]; omega) | (intro h1 h2; exact Bool.and_eq_true_iff.2 ⟨h1, h2⟩) | (intros; simp_all; done))); conv => whnf)
        | (refine Or.inr (And.intro rfl ?_); first | (refine congrArg intV ?_) | (refine congrArg boolV ?_) | (refine tupII ?_ ?_) | (refine tupIII ?_ ?_ ?_) | (refine tupU ?_ ?_ ?_ ?_ ?_) | exact rfl))
      · have hjm : j < t.m := by omega
        have hpj := hp j hjm
        clear hb
        refine And.intro (fun hg => ?_) (fun hg => ?_)
        · have hg1 : t.a j = k ∧ t.b j < k ∨ t.b j = k ∧ t.a j < k := by
            simp only [BL] at hg
            exact hg
          refine CallG.mk (Fn.mono ((hbs (t.a j) d (by omega) (by omega)).le (Le.cons (Le1.refl _) (Le.cons (Le1.refl _) (Le.cons (Le1.xp fun q _ => LLe.of_eq (by rw [Nat.zero_add]; rfl)) (Le.cons (Le1.xp fun q _ => LLe.of_eq (by rw [Nat.zero_add]; rfl)) Le.nil))))) ?_)
          rintro obs r ⟨rfl, rfl⟩
          conv => whnf
          repeat' (first
            | (refine NilG.mk fun bn hbn hbx => ?_; conv => whnf)
            | (refine Both.mk ?_ ?_ <;> conv => whnf)
            | exact trivial
            | (refine Br.mk (fun hb => ?_) (fun hb => ?_) <;> (first | (exfalso; revert hb; decide) | ((try simp only [BL] at hb) <;> (try simp only [DL] at hb) <;> conv => whnf)))
            | (refine And.intro ?_ ?_; (focus (first | exact id | exact rfl | exact trivial | (intro hg; first | exact hg | exact rfl | (simp; done) | (simp at hg ⊢; assumption)) | omega | decide | exact is2_c _ _ _ | exact is1_c _ _ | exact isS_c _ _ | exact isB_c _ _ | exact Nat.le_refl _ | assumption | exact mulLe (by decide) (by omega) | exact mulLe2 (by decide) (by omega) (by omega) | (intros; simp only [BL] at *; omega) | (intros; (try simp only [BL] at *); (try simp only [DL] at *); omega) | (intros; simp only [BL] at *; rw [wr_id (by omega) (by omega)]; omega) | (intro h1 h2; exact Bool.and_eq_true_iff.2 ⟨h1, h2⟩) | (intros; simp_all; done))); conv => whnf)
            | (refine Or.inr (And.intro rfl ?_); first | (refine congrArg intV ?_) | (refine congrArg boolV ?_) | (refine tupII ?_ ?_) | (refine tupIII ?_ ?_ ?_) | (refine tupU ?_ ?_ ?_ ?_ ?_) | exact rfl))
          refine And.intro (fun hg2 => ?_) (fun hg2 => ?_)
          · refine CallG.mk (Fn.mono ((hbs (t.b j) d (by omega) (by omega)).le (Le.cons (Le1.refl _) (Le.cons (Le1.refl _) (Le.cons (Le1.xp fun q _ => LLe.of_eq (by rw [Nat.zero_add]; rfl)) (Le.cons (Le1.xp fun q _ => LLe.of_eq (by rw [Nat.zero_add]; rfl)) Le.nil))))) ?_)
            rintro obs r ⟨rfl, rfl⟩
            conv => whnf
            repeat' (first
              | (refine NilG.mk fun bn hbn hbx => ?_; conv => whnf)
              | (refine Both.mk ?_ ?_ <;> conv => whnf)
              | exact trivial
              | (refine Br.mk (fun hb => ?_) (fun hb => ?_) <;> (first | (exfalso; revert hb; decide) | ((try simp only [BL] at hb) <;> (try simp only [DL] at hb) <;> conv => whnf)))
              | (refine And.intro ?_ ?_; (focus (first | exact id | exact rfl | exact trivial | (intro hg; first | exact hg | exact rfl | (simp; done) | (simp at hg ⊢; assumption)) | omega | decide | exact is2_c _ _ _ | exact is1_c _ _ | exact isS_c _ _ | exact isB_c _ _ | exact Nat.le_refl _ | assumption | exact mulLe (by decide) (by omega) | exact mulLe2 (by decide) (by omega) (by omega) | (intros; simp only [BL] at *; omega) | (intros; (try simp only [BL] at *); (try simp only [DL] at *); omega) | (intros; simp only [BL] at *; rw [wr_id (by omega) (by omega)]; omega) | (intro h1 h2; exact Bool.and_eq_true_iff.2 ⟨h1, h2⟩) | (intros; simp_all; done))); conv => whnf)
              | (refine Or.inr (And.intro rfl ?_); first | (refine congrArg intV ?_) | (refine congrArg boolV ?_) | (refine tupII ?_ ?_) | (refine tupIII ?_ ?_ ?_) | (refine tupU ?_ ?_ ?_ ?_ ?_) | exact rfl))
            · have hh : hitD t x k d j := ⟨hg1, hb.1.2, hb.2⟩
              obtain ⟨i, hi1, hi2⟩ := (ov_hit h0 hkn hx60).2 ⟨d, j, hdn, hjm, hh⟩
              have h2 : fst (ovE t x k) k = 11 := fst_val (by decide) (ov_vals t x k) hi2 hi1
              have h3 : wrE t x k = 11 := by unfold wrE; rw [if_pos (by rw [h2]; decide), h2]
              rw [hE2, fst_at hk.2 (by rw [h3]; decide) hkn, h3]
            · have hn : ¬ hitD t x k d j := fun hh => by
                obtain ⟨q1, q2, q3⟩ := hh
                rcases hb with (hb | hb) | hb
                · omega
                · rw [q2] at hb; cases hb
                · rw [q3] at hb; cases hb
              refine ⟨j + 1, [?_, ?_], ⟨by omega, fun j' h => if e : j' = j then by rw [e]; exact hn else hj'.2 j' (by omega)⟩, by omega, ?_⟩
              rotate_left 2
              refine Sub.of ?_ ?_ ?_
              repeat' (first | (refine And.intro ?_ ?_) | exact trivial | exact fun _ _ _ => hsc _ _ | (exact congrArg intV (by first | with_reducible rfl | with_reducible assumption)) | exact (rfl : AV.idsLt _ _ = true) | exact (rfl : _ = AV.ren _ (.own _)) | exact (rfl : _ = AV.ren _ (.fn _ _)) | exact (rfl : _ = AV.ren _ (.gh _)) | (exact congrArg intV (by assumption)) | (refine congrArg intV ((wr_id (by omega) (by omega)).trans (by omega))) | exact rfl | (simp only [Int.toNat_natCast, Int.toNat_zero, Nat.sub_zero, Nat.zero_add]; first | exact rfl | done) | exact all0 | exact fun h => Bool.noConfusion h | exact fun _ _ _ _ => rfl | omega)
          · rw [hg2]
            conv => whnf
            repeat' (first
              | (refine NilG.mk fun bn hbn hbx => ?_; conv => whnf)
              | (refine Both.mk ?_ ?_ <;> conv => whnf)
              | exact trivial
              | (refine Br.mk (fun hb => ?_) (fun hb => ?_) <;> (first | (exfalso; revert hb; decide) | ((try simp only [BL] at hb) <;> (try simp only [DL] at hb) <;> conv => whnf)))
              | (refine And.intro ?_ ?_; (focus (first | exact id | exact rfl | exact trivial | (intro hg; first | exact hg | exact rfl | (simp; done) | (simp at hg ⊢; assumption)) | omega | decide | exact is2_c _ _ _ | exact is1_c _ _ | exact isS_c _ _ | exact isB_c _ _ | exact Nat.le_refl _ | assumption | exact mulLe (by decide) (by omega) | exact mulLe2 (by decide) (by omega) (by omega) | (intros; simp only [BL] at *; omega) | (intros; (try simp only [BL] at *); (try simp only [DL] at *); omega) | (intros; simp only [BL] at *; rw [wr_id (by omega) (by omega)]; omega) | (intro h1 h2; exact Bool.and_eq_true_iff.2 ⟨h1, h2⟩) | (intros; simp_all; done))); conv => whnf)
              | (refine Or.inr (And.intro rfl ?_); first | (refine congrArg intV ?_) | (refine congrArg boolV ?_) | (refine tupII ?_ ?_) | (refine tupIII ?_ ?_ ?_) | (refine tupU ?_ ?_ ?_ ?_ ?_) | exact rfl))
            · have hn : ¬ hitD t x k d j := fun hh => by
                obtain ⟨q1, q2, q3⟩ := hh
                simp only [BL] at hg2
                rcases hg2 with hb | hb
                · omega
                · rw [q2] at hb; cases hb
              refine ⟨j + 1, [?_, ?_], ⟨by omega, fun j' h => if e : j' = j then by rw [e]; exact hn else hj'.2 j' (by omega)⟩, by omega, ?_⟩
              rotate_left 2
              refine Sub.of ?_ ?_ ?_
              repeat' (first | (refine And.intro ?_ ?_) | exact trivial | exact fun _ _ _ => hsc _ _ | (exact congrArg intV (by first | with_reducible rfl | with_reducible assumption)) | exact (rfl : AV.idsLt _ _ = true) | exact (rfl : _ = AV.ren _ (.own _)) | exact (rfl : _ = AV.ren _ (.fn _ _)) | exact (rfl : _ = AV.ren _ (.gh _)) | (exact congrArg intV (by assumption)) | (refine congrArg intV ((wr_id (by omega) (by omega)).trans (by omega))) | exact rfl | (simp only [Int.toNat_natCast, Int.toNat_zero, Nat.sub_zero, Nat.zero_add]; first | exact rfl | done) | exact all0 | exact fun h => Bool.noConfusion h | exact fun _ _ _ _ => rfl | omega)
        · rw [hg]
          conv => whnf
          repeat' (first
            | (refine NilG.mk fun bn hbn hbx => ?_; conv => whnf)
            | (refine Both.mk ?_ ?_ <;> conv => whnf)
            | exact trivial
            | (refine Br.mk (fun hb => ?_) (fun hb => ?_) <;> (first | (exfalso; revert hb; decide) | ((try simp only [BL] at hb) <;> (try simp only [DL] at hb) <;> conv => whnf)))
            | (refine And.intro ?_ ?_; (focus (first | exact id | exact rfl | exact trivial | (intro hg; first | exact hg | exact rfl | (simp; done) | (simp at hg ⊢; assumption)) | omega | decide | exact is2_c _ _ _ | exact is1_c _ _ | exact isS_c _ _ | exact isB_c _ _ | exact Nat.le_refl _ | assumption | exact mulLe (by decide) (by omega) | exact mulLe2 (by decide) (by omega) (by omega) | (intros; simp only [BL] at *; omega) | (intros; (try simp only [BL] at *); (try simp only [DL] at *); omega) | (intros; simp only [BL] at *; rw [wr_id (by omega) (by omega)]; omega) | (intro h1 h2; exact Bool.and_eq_true_iff.2 ⟨h1, h2⟩) | (intros; simp_all; done))); conv => whnf)
            | (refine Or.inr (And.intro rfl ?_); first | (refine congrArg intV ?_) | (refine congrArg boolV ?_) | (refine tupII ?_ ?_) | (refine tupIII ?_ ?_ ?_) | (refine tupU ?_ ?_ ?_ ?_ ?_) | exact rfl))
          intro _
          conv => whnf
          repeat' (first
            | (refine NilG.mk fun bn hbn hbx => ?_; conv => whnf)
            | (refine Both.mk ?_ ?_ <;> conv => whnf)
            | exact trivial
            | (refine Br.mk (fun hb => ?_) (fun hb => ?_) <;> (first | (exfalso; revert hb; decide) | ((try simp only [BL] at hb) <;> (try simp only [DL] at hb) <;> conv => whnf)))
            | (refine And.intro ?_ ?_; (focus (first | exact id | exact rfl | exact trivial | (intro hg; first | exact hg | exact rfl | (simp; done) | (simp at hg ⊢; assumption)) | omega | decide | exact is2_c _ _ _ | exact is1_c _ _ | exact isS_c _ _ | exact isB_c _ _ | exact Nat.le_refl _ | assumption | exact mulLe (by decide) (by omega) | exact mulLe2 (by decide) (by omega) (by omega) | (intros; simp only [BL] at *; omega) | (intros; (try simp only [BL] at *); (try simp only [DL] at *); omega) | (intros; simp only [BL] at *; rw [wr_id (by omega) (by omega)]; omega) | (intro h1 h2; exact Bool.and_eq_true_iff.2 ⟨h1, h2⟩) | (intros; simp_all; done))); conv => whnf)
            | (refine Or.inr (And.intro rfl ?_); first | (refine congrArg intV ?_) | (refine congrArg boolV ?_) | (refine tupII ?_ ?_) | (refine tupIII ?_ ?_ ?_) | (refine tupU ?_ ?_ ?_ ?_ ?_) | exact rfl))
          · have hn : ¬ hitD t x k d j := fun hh => by
              obtain ⟨q1, q2, q3⟩ := hh
              simp only [BL] at hg
              omega
            refine ⟨j + 1, [?_, ?_], ⟨by omega, fun j' h => if e : j' = j then by rw [e]; exact hn else hj'.2 j' (by omega)⟩, by omega, ?_⟩
            rotate_left 2
            refine Sub.of ?_ ?_ ?_
            repeat' (first | (refine And.intro ?_ ?_) | exact trivial | exact fun _ _ _ => hsc _ _ | (exact congrArg intV (by first | with_reducible rfl | with_reducible assumption)) | exact (rfl : AV.idsLt _ _ = true) | exact (rfl : _ = AV.ren _ (.own _)) | exact (rfl : _ = AV.ren _ (.fn _ _)) | exact (rfl : _ = AV.ren _ (.gh _)) | (exact congrArg intV (by assumption)) | (refine congrArg intV ((wr_id (by omega) (by omega)).trans (by omega))) | exact rfl | (simp only [Int.toNat_natCast, Int.toNat_zero, Nat.sub_zero, Nat.zero_add]; first | exact rfl | done) | exact all0 | exact fun h => Bool.noConfusion h | exact fun _ _ _ _ => rfl | omega)
      · have hjm : j = t.m := by omega
        refine ⟨d + 1, [?_, ?_], ⟨by omega, fun d' j' h1 h2 => if e : d' = d then by rw [e]; exact hj'.2 j' (by omega) else hd.2 d' j' (by omega) h2⟩, by omega, ?_⟩
        rotate_left 2
        refine Sub.of ?_ ?_ ?_
        repeat' (first | (refine And.intro ?_ ?_) | exact trivial | exact fun _ _ _ => hsc _ _ | (exact congrArg intV (by first | with_reducible rfl | with_reducible assumption)) | exact (rfl : AV.idsLt _ _ = true) | exact (rfl : _ = AV.ren _ (.own _)) | exact (rfl : _ = AV.ren _ (.fn _ _)) | exact (rfl : _ = AV.ren _ (.gh _)) | (exact congrArg intV (by assumption)) | (refine congrArg intV ((wr_id (by omega) (by omega)).trans (by omega))) | exact rfl | (simp only [Int.toNat_natCast, Int.toNat_zero, Nat.sub_zero, Nat.zero_add]; first | exact rfl | done) | exact all0 | exact fun h => Bool.noConfusion h | exact fun _ _ _ _ => rfl | omega)
    · have hdn : d = 121 := by omega
      clear hb
      have hov : fst (ovE t x k) k = 0 := fst_of fun i hi => by
        rcases ov_vals t x k i with h | h
        · exact h
        · obtain ⟨d', j', q1, q2, q3⟩ := (ov_hit h0 hkn hx60).1 ⟨i, hi, h⟩
          exact absurd q3 (hd.2 d' j' (by omega) q2)
      have hwr : wrE t x k = fst (fuE t x k) 121 := by unfold wrE; rw [if_neg (fun h => h hov)]
      have ek1 : IntKind.i64.wrap ((k : Int) + 1) = (k + 1 : Nat) := (wr_id (by omega) (by omega)).trans (by omega)
      refine sem_loop tab_ok gamK4_ok mixed (by kernel_rfl) (O := lex) (fun d : Nat => ⟨[(98, intV d), (8, intV k), (47, intV k), (46, intV t.n), (2, .lp 0 0), (7, .fn 61 [.lp 1 0, .lp 0 0])], [tB t, .box [.c (.sl 1 t.n (c1 x))]]⟩) (fun d => d ≤ 121 ∧ ∀ d' : Nat, d' < d → fuE t x k d' = 0) (fun d => 121 - d) ⟨0, [?_, ?_], ⟨Nat.zero_le _, fun d' h => absurd h (Nat.not_lt_zero _)⟩, ?_⟩ fun d hd2 => ?_
      rotate_left 2
      · refine Sub.of ?_ ?_ ?_
        repeat' (first | (refine And.intro ?_ ?_) | exact trivial | exact fun _ _ _ => hsc _ _ | (exact congrArg intV (by first | with_reducible rfl | with_reducible assumption)) | exact (rfl : AV.idsLt _ _ = true) | exact (rfl : _ = AV.ren _ (.own _)) | exact (rfl : _ = AV.ren _ (.fn _ _)) | exact (rfl : _ = AV.ren _ (.gh _)) | (exact congrArg intV (by assumption)) | (refine congrArg intV ((wr_id (by omega) (by omega)).trans (by omega))) | exact rfl | (simp only [Int.toNat_natCast, Int.toNat_zero, Nat.sub_zero, Nat.zero_add]; first | exact rfl | done) | exact all0 | exact fun h => Bool.noConfusion h | exact fun _ _ _ _ => rfl | omega)
      conv => whnf
      repeat' (first
        | (refine NilG.mk fun bn hbn hbx => ?_; conv => whnf)
        | (refine Both.mk ?_ ?_ <;> conv => whnf)
        | exact trivial
        | (refine Br.mk (fun hb => ?_) (fun hb => ?_) <;> (first | (exfalso; revert hb; decide) | ((try simp only [BL] at hb) <;> (try simp only [DL] at hb) <;> conv => whnf)))
        | (refine And.intro ?_ ?_; (focus (first | exact id | exact rfl | exact trivial | (intro hg; first | exact hg | exact rfl | (simp; done) | (simp at hg ⊢; assumption)) | omega | decide | exact is2_c _ _ _ | exact is1_c _ _ | exact isS_c _ _ | exact isB_c _ _ | exact Nat.le_refl _ | assumption | exact mulLe (by decide) (by omega) | exact mulLe2 (by decide) (by omega) (by omega) | (intros; simp only [BL] at *; omega) | (intros; (try simp only [BL] at *); (try simp only [DL] at *); omega) | (intros; simp only [BL] at *; rw [wr_id (by omega) (by omega)]; omega) | (intro h1 h2; exact Bool.and_eq_true_iff.2 ⟨h1, h2⟩) | (intros; simp_all; done))); conv => whnf)
        | (refine Or.inr (And.intro rfl ?_); first | (refine congrArg intV ?_) | (refine congrArg boolV ?_) | (refine tupII ?_ ?_) | (refine tupIII ?_ ?_ ?_) | (refine tupU ?_ ?_ ?_ ?_ ?_) | exact rfl))
      · have hdn2 : d < 121 := by omega
        clear hb
        refine sem_loop tab_ok gamK4_ok mixed (by kernel_rfl) (O := lex) (fun i : Nat => ⟨[(103, intV i), (102, intV (k + 1 : Nat)), (12, intV d), (13, intV (S (bI t x d) i)), (98, intV d), (8, intV k), (47, intV k), (46, intV t.n), (2, .lp 0 0), (7, .fn 61 [.lp 1 0, .lp 0 0])], [tB t, .box [.c (.sl 1 t.n (c1 x))]]⟩) (fun i => i ≤ k + 1) (fun i => k + 1 - i) ⟨0, [?_, ?_], Nat.zero_le _, ?_⟩ fun i hi2 => ?_
        rotate_left 2
        · refine Sub.of ?_ ?_ ?_
          repeat' (first | (refine And.intro ?_ ?_) | exact trivial | exact fun _ _ _ => hsc _ _ | (exact congrArg intV (by first | with_reducible rfl | with_reducible assumption)) | exact (rfl : AV.idsLt _ _ = true) | exact (rfl : _ = AV.ren _ (.own _)) | exact (rfl : _ = AV.ren _ (.fn _ _)) | exact (rfl : _ = AV.ren _ (.gh _)) | (exact congrArg intV (by assumption)) | (refine congrArg intV ((wr_id (by omega) (by omega)).trans (by omega))) | exact rfl | (simp only [Int.toNat_natCast, Int.toNat_zero, Nat.sub_zero, Nat.zero_add]; first | exact rfl | done) | exact all0 | exact fun h => Bool.noConfusion h | exact fun _ _ _ _ => rfl | omega)
        have hS := S_01 (bI_01 t x d) i
        conv => whnf
        repeat' (first
          | (refine NilG.mk fun bn hbn hbx => ?_; conv => whnf)
          | (refine Both.mk ?_ ?_ <;> conv => whnf)
          | exact trivial
          | (refine Br.mk (fun hb => ?_) (fun hb => ?_) <;> (first | (exfalso; revert hb; decide) | ((try simp only [BL] at hb) <;> (try simp only [DL] at hb) <;> conv => whnf)))
          | (refine And.intro ?_ ?_; (focus (first | exact id | exact rfl | exact trivial | (intro hg; first | exact hg | exact rfl | (simp; done) | (simp at hg ⊢; assumption)) | omega | decide | exact is2_c _ _ _ | exact is1_c _ _ | exact isS_c _ _ | exact isB_c _ _ | exact Nat.le_refl _ | assumption | exact mulLe (by decide) (by omega) | exact mulLe2 (by decide) (by omega) (by omega) | (intros; simp only [BL] at *; omega) | (intros; (try simp only [BL] at *); (try simp only [DL] at *); omega) | (intros; simp only [BL] at *; rw [wr_id (by omega) (by omega)]; omega) | (intro h1 h2; exact Bool.and_eq_true_iff.2 ⟨h1, h2⟩) | (intros; simp_all; done))); conv => whnf)
          | (refine Or.inr (And.intro rfl ?_); first | (refine congrArg intV ?_) | (refine congrArg boolV ?_) | (refine tupII ?_ ?_) | (refine tupIII ?_ ?_ ?_) | (refine tupU ?_ ?_ ?_ ?_ ?_) | exact rfl))
        · have hik : i < k + 1 := by omega
          clear hb
          refine CallG.mk (Fn.mono ((hbs i d (by omega) (by omega)).le (Le.cons (Le1.refl _) (Le.cons (Le1.refl _) (Le.cons (Le1.xp fun q _ => LLe.of_eq (by rw [Nat.zero_add]; rfl)) (Le.cons (Le1.xp fun q _ => LLe.of_eq (by rw [Nat.zero_add]; rfl)) Le.nil))))) ?_)
          rintro obs r ⟨rfl, rfl⟩
          conv => whnf
          repeat' (first
            | (refine NilG.mk fun bn hbn hbx => ?_; conv => whnf)
            | (refine Both.mk ?_ ?_ <;> conv => whnf)
            | exact trivial
            | (refine Br.mk (fun hb => ?_) (fun hb => ?_) <;> (first | (exfalso; revert hb; decide) | ((try simp only [BL] at hb) <;> (try simp only [DL] at hb) <;> conv => whnf)))
            | (refine And.intro ?_ ?_; (focus (first | exact id | exact rfl | exact trivial | (intro hg; first | exact hg | exact rfl | (simp; done) | (simp at hg ⊢; assumption)) | omega | decide | exact is2_c _ _ _ | exact is1_c _ _ | exact isS_c _ _ | exact isB_c _ _ | exact Nat.le_refl _ | assumption | exact mulLe (by decide) (by omega) | exact mulLe2 (by decide) (by omega) (by omega) | (intros; simp only [BL] at *; omega) | (intros; (try simp only [BL] at *); (try simp only [DL] at *); omega) | (intros; simp only [BL] at *; rw [wr_id (by omega) (by omega)]; omega) | (intro h1 h2; exact Bool.and_eq_true_iff.2 ⟨h1, h2⟩) | (intros; simp_all; done))); conv => whnf)
            | (refine Or.inr (And.intro rfl ?_); first | (refine congrArg intV ?_) | (refine congrArg boolV ?_) | (refine tupII ?_ ?_) | (refine tupIII ?_ ?_ ?_) | (refine tupU ?_ ?_ ?_ ?_ ?_) | exact rfl))
          · have e1 : IntKind.i64.wrap (S (bI t x d) i + 1) = S (bI t x d) (i + 1) := by
              have : bI t x d i = 1 := if_pos hb
              simp only [S]
              rw [this]
              exact wr_id (by omega) (by omega)
            refine ⟨i + 1, [?_, ?_], by omega, by omega, ?_⟩
            rotate_left 2
            refine Sub.of ?_ ?_ ?_
            repeat' (first | (refine And.intro ?_ ?_) | exact trivial | exact fun _ _ _ => hsc _ _ | (exact congrArg intV (by first | with_reducible rfl | with_reducible assumption)) | exact (rfl : AV.idsLt _ _ = true) | exact (rfl : _ = AV.ren _ (.own _)) | exact (rfl : _ = AV.ren _ (.fn _ _)) | exact (rfl : _ = AV.ren _ (.gh _)) | (exact congrArg intV (by assumption)) | (refine congrArg intV ((wr_id (by omega) (by omega)).trans (by omega))) | exact rfl | (simp only [Int.toNat_natCast, Int.toNat_zero, Nat.sub_zero, Nat.zero_add]; first | exact rfl | done) | exact all0 | exact fun h => Bool.noConfusion h | exact fun _ _ _ _ => rfl | omega)
          · have e1 : S (bI t x d) i = S (bI t x d) (i + 1) := by
              have : bI t x d i = 0 := if_neg (by rw [show bsy t x i d = false from hb]; decide)
              simp only [S]
              rw [this]
              omega
            refine ⟨i + 1, [?_, ?_], by omega, by omega, ?_⟩
            rotate_left 2
            refine Sub.of ?_ ?_ ?_
            repeat' (first | (refine And.intro ?_ ?_) | exact trivial | exact fun _ _ _ => hsc _ _ | (exact congrArg intV (by first | with_reducible rfl | with_reducible assumption)) | exact (rfl : AV.idsLt _ _ = true) | exact (rfl : _ = AV.ren _ (.own _)) | exact (rfl : _ = AV.ren _ (.fn _ _)) | exact (rfl : _ = AV.ren _ (.gh _)) | (exact congrArg intV (by assumption)) | (refine congrArg intV ((wr_id (by omega) (by omega)).trans (by omega))) | exact rfl | (simp only [Int.toNat_natCast, Int.toNat_zero, Nat.sub_zero, Nat.zero_add]; first | exact rfl | done) | exact all0 | exact fun h => Bool.noConfusion h | exact fun _ _ _ _ => rfl | omega)
        · have hik : i = k + 1 := by omega
          clear hb
          refine CallG.mk (Fn.mono ((hbs k d (by omega) (by omega)).le (Le.cons (Le1.refl _) (Le.cons (Le1.refl _) (Le.cons (Le1.xp fun q _ => LLe.of_eq (by rw [Nat.zero_add]; rfl)) (Le.cons (Le1.xp fun q _ => LLe.of_eq (by rw [Nat.zero_add]; rfl)) Le.nil))))) ?_)
          rintro obs r ⟨rfl, rfl⟩
          rw [hik] at hS ⊢
          conv => whnf
          repeat' (first
            | (refine NilG.mk fun bn hbn hbx => ?_; conv => whnf)
            | (refine Both.mk ?_ ?_ <;> conv => whnf)
            | exact trivial
            | (refine Br.mk (fun hb => ?_) (fun hb => ?_) <;> (first | (exfalso; revert hb; decide) | ((try simp only [BL] at hb) <;> (try simp only [DL] at hb) <;> conv => whnf)))
            | (refine And.intro ?_ ?_; (focus (first | exact id | exact rfl | exact trivial | (intro hg; first | exact hg | exact rfl | (simp; done) | (simp at hg ⊢; assumption)) | omega | decide | exact is2_c _ _ _ | exact is1_c _ _ | exact isS_c _ _ | exact isB_c _ _ | exact Nat.le_refl _ | assumption | exact mulLe (by decide) (by omega) | exact mulLe2 (by decide) (by omega) (by omega) | (intros; simp only [BL] at *; omega) | (intros; (try simp only [BL] at *); (try simp only [DL] at *); omega) | (intros; simp only [BL] at *; rw [wr_id (by omega) (by omega)]; omega) | (intro h1 h2; exact Bool.and_eq_true_iff.2 ⟨h1, h2⟩) | (intros; simp_all; done))); conv => whnf)
            | (refine Or.inr (And.intro rfl ?_); first | (refine congrArg intV ?_) | (refine congrArg boolV ?_) | (refine tupII ?_ ?_) | (refine tupIII ?_ ?_ ?_) | (refine tupU ?_ ?_ ?_ ?_ ?_) | exact rfl))
          · have h9 : fuE t x k d = 9 := by unfold fuE; rw [if_pos ⟨hb.1, by omega⟩]
            have h3 : wrE t x k = 9 := by rw [hwr]; exact fst_val (by decide) (fu_vals t x k) h9 (by omega)
            rw [hE2, fst_at hk.2 (by rw [h3]; decide) hkn, h3]
          · have h0 : fuE t x k d = 0 := by
              unfold fuE
              rw [if_neg]
              rintro ⟨q1, q2⟩
              rcases hb with hb | hb
              · rw [show bsy t x k d = false from hb] at q1; cases q1
              · omega
            refine ⟨d + 1, [?_, ?_], ⟨by omega, fun d' h => if e : d' = d then by rw [e]; exact h0 else hd2.2 d' (by omega)⟩, by omega, ?_⟩
            rotate_left 2
            refine Sub.of ?_ ?_ ?_
            repeat' (first | (refine And.intro ?_ ?_) | exact trivial | exact fun _ _ _ => hsc _ _ | (exact congrArg intV (by first | with_reducible rfl | with_reducible assumption)) | exact (rfl : AV.idsLt _ _ = true) | exact (rfl : _ = AV.ren _ (.own _)) | exact (rfl : _ = AV.ren _ (.fn _ _)) | exact (rfl : _ = AV.ren _ (.gh _)) | (exact congrArg intV (by assumption)) | (refine congrArg intV ((wr_id (by omega) (by omega)).trans (by omega))) | exact rfl | (simp only [Int.toNat_natCast, Int.toNat_zero, Nat.sub_zero, Nat.zero_add]; first | exact rfl | done) | exact all0 | exact fun h => Bool.noConfusion h | exact fun _ _ _ _ => rfl | omega)
      · have hdn3 : d = 121 := by omega
        have h3 : wrE t x k = 0 := by rw [hwr]; exact fst_of fun d' h => hd2.2 d' (by omega)
        refine ⟨k + 1, [?_, ?_], ⟨by omega, fst_next hk.2 h3⟩, by omega, ?_⟩
        rotate_left 2
        refine Sub.of ?_ ?_ ?_
        repeat' (first | (refine And.intro ?_ ?_) | exact trivial | exact fun _ _ _ => hsc _ _ | (exact congrArg intV (by first | with_reducible rfl | with_reducible assumption)) | exact (rfl : AV.idsLt _ _ = true) | exact (rfl : _ = AV.ren _ (.own _)) | exact (rfl : _ = AV.ren _ (.fn _ _)) | exact (rfl : _ = AV.ren _ (.gh _)) | (exact congrArg intV (by assumption)) | (refine congrArg intV ((wr_id (by omega) (by omega)).trans (by omega))) | exact rfl | (simp only [Int.toNat_natCast, Int.toNat_zero, Nat.sub_zero, Nat.zero_add]; first | exact rfl | done) | exact all0 | exact fun h => Bool.noConfusion h | exact fun _ _ _ _ => rfl | omega)
  · have hkn : k = t.n := by omega
    rw [hE2, ← hkn, hk.2]

theorem upCost (t : Tsk) (x : Nat → Int) (h0 : tskE t = 0) (hd : fst (dyE t x) t.n = 0) : Fn1 Try.prog 13 [tV t, .c (.sl 1 t.n (c1 x))] (intV (S (coK t x) t.n)) := by
  refine fn_of_wpx (O := lex) tab_ok gamK4_ok mixed Try.func13 (by kernel_rfl) rfl rfl rfl (by simp [Try.ntmps13]) (by kernel_rfl) ?_
  obtain ⟨hn6, hm6, hc1, hc6, hj, hp⟩ := tskE_zero h0
  have hbj : ∀ k, k < t.n → 0 ≤ t.ff k ∧ t.la k ≤ 60 ∧ 0 ≤ t.we k ∧ t.we k ≤ 1000 := fun k hk => by have := hj k hk; unfold badJ at this; omega
  have hdy := fun k hk => dyE_zero (fst_zero hd k hk)
  have hco : ∀ i, i ≤ t.n → 0 ≤ S (coK t x) i ∧ S (coK t x) i ≤ 600000 := fun i hi => by
    have := S_le (p := coK t x) (a := 0) (b := 60000) (k := i) fun k hk => by
      have h1 := hdy k (by omega)
      have h2 := hbj k (by omega)
      have := mulB (a := t.we k) (b := x k - t.ff k) (A := 1000) (B := 60) (by omega) (by omega) (by omega) (by omega) (by omega)
      have := Int.mul_nonneg (a := t.we k) (b := x k - t.ff k) (by omega) (by omega)
      unfold coK
      omega
    omega
  conv => whnf
  repeat' (first
    | (refine NilG.mk fun bn hbn hbx => ?_; conv => whnf)
    | (refine Both.mk ?_ ?_ <;> conv => whnf)
    | exact trivial
    | (refine Br.mk (fun hb => ?_) (fun hb => ?_) <;> (first | (exfalso; revert hb; decide) | ((try simp only [BL] at hb) <;> (try simp only [DL] at hb) <;> conv => whnf)))
    | (refine And.intro ?_ ?_; (focus (first | exact id | exact rfl | exact trivial | (intro hg; first | exact hg | exact rfl | (simp; done) | (simp at hg ⊢; assumption)) | omega | decide | exact is2_c _ _ _ | exact is1_c _ _ | exact isS_c _ _ | exact isB_c _ _ | exact Nat.le_refl _ | assumption | exact mulLe (by decide) (by omega) | exact mulLe2 (by decide) (by omega) (by omega) | (intros; simp only [BL] at *; omega) | (intros; (try simp only [BL] at *); (try simp only [DL] at *); omega) | (intros; simp only [BL] at *; rw [wr_id (by omega) (by omega)]; omega) | (intro h1 h2; exact Bool.and_eq_true_iff.2 ⟨h1, h2⟩) | (intros; simp_all; done))); conv => whnf)
    | (refine Or.inr (And.intro rfl ?_); first | (refine congrArg intV ?_) | (refine congrArg boolV ?_) | (refine tupII ?_ ?_) | (refine tupIII ?_ ?_ ?_) | (refine tupU ?_ ?_ ?_ ?_ ?_) | exact rfl))
  refine sem_loop tab_ok gamK4_ok mixed (by kernel_rfl) (O := lex) (fun i : Nat => ⟨[(2, .lp 0 0), (5, intV (S (coK t x) i)), (8, .c (.sl 1 t.n (c1 x))), (9, intV t.n), (10, intV i)], [tB t]⟩) (fun i => i ≤ t.n) (fun i => t.n - i) ⟨0, [?_], Nat.zero_le _, ?_⟩ fun i hi => ?_
  rotate_left 1
  · refine Sub.of ?_ ?_ ?_
    repeat' (first | (refine And.intro ?_ ?_) | exact trivial | exact fun _ _ _ => hsc _ _ | (exact congrArg intV (by first | with_reducible rfl | with_reducible assumption)) | exact (rfl : AV.idsLt _ _ = true) | exact (rfl : _ = AV.ren _ (.own _)) | exact (rfl : _ = AV.ren _ (.fn _ _)) | exact (rfl : _ = AV.ren _ (.gh _)) | (exact congrArg intV (by assumption)) | (refine congrArg intV ((wr_id (by omega) (by omega)).trans (by omega))) | exact rfl | (simp only [Int.toNat_natCast, Int.toNat_zero, Nat.sub_zero, Nat.zero_add]; first | exact rfl | done) | exact all0 | exact fun h => Bool.noConfusion h | exact fun _ _ _ _ => rfl | omega)
  have hci := hco i hi
  have hdi := hdy i
  have hbi := hbj i
  conv => whnf
  repeat' (first
    | (refine NilG.mk fun bn hbn hbx => ?_; conv => whnf)
    | (refine Both.mk ?_ ?_ <;> conv => whnf)
    | exact trivial
    | (refine Br.mk (fun hb => ?_) (fun hb => ?_) <;> (first | (exfalso; revert hb; decide) | ((try simp only [BL] at hb) <;> (try simp only [DL] at hb) <;> conv => whnf)))
    | (refine And.intro ?_ ?_; (focus (first | exact id | exact rfl | exact trivial | (intro hg; first | exact hg | exact rfl | (simp; done) | (simp at hg ⊢; assumption)) | omega | decide | exact is2_c _ _ _ | exact is1_c _ _ | exact isS_c _ _ | exact isB_c _ _ | exact Nat.le_refl _ | assumption | exact mulLe (by decide) (by omega) | exact mulLe2 (by decide) (by omega) (by omega) | (intros; simp only [BL] at *; omega) | (intros; (try simp only [BL] at *); (try simp only [DL] at *); omega) | (intros; simp only [BL] at *; rw [wr_id (by omega) (by omega)]; omega) | (intro h1 h2; exact Bool.and_eq_true_iff.2 ⟨h1, h2⟩) | (intros; simp_all; done))); conv => whnf)
    | (refine Or.inr (And.intro rfl ?_); first | (refine congrArg intV ?_) | (refine congrArg boolV ?_) | (refine tupII ?_ ?_) | (refine tupIII ?_ ?_ ?_) | (refine tupU ?_ ?_ ?_ ?_ ?_) | exact rfl))
  · have hin : i < t.n := by omega
    have hdi := hdy i hin
    have hbi := hbj i hin
    clear hb
    have e22 : IntKind.i64.wrap (x i - t.ff i) = x i - t.ff i := wr_id (by omega) (by omega)
    refine sem_loop tab_ok gamK4_ok mixed (by kernel_rfl) (O := lex) (fun z : Nat => ⟨[(2, .lp 0 0), (5, intV (S (coK t x) i + t.we i * z)), (6, intV i), (8, .c (.sl 1 t.n (c1 x))), (9, intV t.n), (10, intV i), (22, intV (x i - t.ff i)), (23, intV z)], [tB t]⟩) (fun z => (z : Int) ≤ x i - t.ff i) (fun z => (x i - t.ff i).toNat - z) ⟨0, [?_], by show (0 : Int) ≤ x i - t.ff i; omega, ?_⟩ fun z hz => ?_
    rotate_left 1
    · refine Sub.of ?_ ?_ ?_
      repeat' (first | (refine And.intro ?_ ?_) | exact trivial | exact fun _ _ _ => hsc _ _ | (exact congrArg intV (by first | with_reducible rfl | with_reducible assumption)) | exact (rfl : AV.idsLt _ _ = true) | exact (rfl : _ = AV.ren _ (.own _)) | exact (rfl : _ = AV.ren _ (.fn _ _)) | exact (rfl : _ = AV.ren _ (.gh _)) | (exact congrArg intV (by assumption)) | (refine congrArg intV ((wr_id (by omega) (by omega)).trans (by omega))) | exact rfl | (simp only [Int.toNat_natCast, Int.toNat_zero, Nat.sub_zero, Nat.zero_add]; first | exact rfl | done) | exact all0 | exact fun h => Bool.noConfusion h | exact fun _ _ _ _ => rfl | omega)
      · exact congrArg intV (by omega)
    have hm := mulB (a := t.we i) (b := (z : Int)) (A := 1000) (B := 60) (by omega) (by omega) (by omega) (by omega) (by omega)
    conv => whnf
    repeat' (first
      | (refine NilG.mk fun bn hbn hbx => ?_; conv => whnf)
      | (refine Both.mk ?_ ?_ <;> conv => whnf)
      | exact trivial
      | (refine Br.mk (fun hb => ?_) (fun hb => ?_) <;> (first | (exfalso; revert hb; decide) | ((try simp only [BL] at hb) <;> (try simp only [DL] at hb) <;> conv => whnf)))
      | (refine And.intro ?_ ?_; (focus (first | exact id | exact rfl | exact trivial | (intro hg; first | exact hg | exact rfl | (simp; done) | (simp at hg ⊢; assumption)) | omega | decide | exact is2_c _ _ _ | exact is1_c _ _ | exact isS_c _ _ | exact isB_c _ _ | exact Nat.le_refl _ | assumption | exact mulLe (by decide) (by omega) | exact mulLe2 (by decide) (by omega) (by omega) | (intros; simp only [BL] at *; omega) | (intros; (try simp only [BL] at *); (try simp only [DL] at *); omega) | (intros; simp only [BL] at *; rw [wr_id (by omega) (by omega)]; omega) | (intro h1 h2; exact Bool.and_eq_true_iff.2 ⟨h1, h2⟩) | (intros; simp_all; done))); conv => whnf)
      | (refine Or.inr (And.intro rfl ?_); first | (refine congrArg intV ?_) | (refine congrArg boolV ?_) | (refine tupII ?_ ?_) | (refine tupIII ?_ ?_ ?_) | (refine tupU ?_ ?_ ?_ ?_ ?_) | exact rfl))
    · have e5 : IntKind.i64.wrap (S (coK t x) i + t.we i * z + t.we i) = S (coK t x) i + t.we i * (z + 1 : Nat) := by
        rw [show t.we i * ((z + 1 : Nat) : Int) = t.we i * z + t.we i by rw [Int.natCast_succ, Int.mul_add, Int.mul_one]]
        exact (wr_id (by omega) (by omega)).trans (by omega)
      refine ⟨z + 1, [?_], by omega, by omega, ?_⟩
      rotate_left 1
      refine Sub.of ?_ ?_ ?_
      repeat' (first | (refine And.intro ?_ ?_) | exact trivial | exact fun _ _ _ => hsc _ _ | (exact congrArg intV (by first | with_reducible rfl | with_reducible assumption)) | exact (rfl : AV.idsLt _ _ = true) | exact (rfl : _ = AV.ren _ (.own _)) | exact (rfl : _ = AV.ren _ (.fn _ _)) | exact (rfl : _ = AV.ren _ (.gh _)) | (exact congrArg intV (by assumption)) | (refine congrArg intV ((wr_id (by omega) (by omega)).trans (by omega))) | exact rfl | (simp only [Int.toNat_natCast, Int.toNat_zero, Nat.sub_zero, Nat.zero_add]; first | exact rfl | done) | exact all0 | exact fun h => Bool.noConfusion h | exact fun _ _ _ _ => rfl | omega)
    · have hzz : (z : Int) = x i - t.ff i := by omega
      have e5 : S (coK t x) i + t.we i * z = S (coK t x) (i + 1) := by rw [hzz]; rfl
      refine ⟨i + 1, [?_], by omega, by omega, ?_⟩
      rotate_left 1
      refine Sub.of ?_ ?_ ?_
      repeat' (first | (refine And.intro ?_ ?_) | exact trivial | exact fun _ _ _ => hsc _ _ | (exact congrArg intV (by first | with_reducible rfl | with_reducible assumption)) | exact (rfl : AV.idsLt _ _ = true) | exact (rfl : _ = AV.ren _ (.own _)) | exact (rfl : _ = AV.ren _ (.fn _ _)) | exact (rfl : _ = AV.ren _ (.gh _)) | (exact congrArg intV (by assumption)) | (refine congrArg intV ((wr_id (by omega) (by omega)).trans (by omega))) | exact rfl | (simp only [Int.toNat_natCast, Int.toNat_zero, Nat.sub_zero, Nat.zero_add]; first | exact rfl | done) | exact all0 | exact fun h => Bool.noConfusion h | exact fun _ _ _ _ => rfl | omega)
  · rw [show i = t.n by omega]
end Go.Proofs.Ytkkkldhilofgmaa
