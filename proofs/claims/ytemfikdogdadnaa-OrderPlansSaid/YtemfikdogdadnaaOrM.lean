/-
  OrderPlans holds: Plan returns the first shortest order that the reference finds by trying all, whatever the rules, the states and what is held.
-/
import Derived.Test.YtemfikdogdadnaaOrL
namespace Go.Proofs.Ytemfikdogdadnaa
open Go.RowKit Go.ChangeShapes Go.WideShapes

set_option maxHeartbeats 8000000 in
set_option maxRecDepth 100000 in
theorem orLaw (r : Rls) (s t : Sts) (hN : Nat) (H : Nat → ByteArray) (hr : r.ok) (hs : s.ok) (ht : t.ok) (hh : hN ≤ maxLen) : Fn1 Try.prog 6 [rlV r, stV s, stV t, .c (.sl 1 hN (cS H))] (boolV true) := by
  refine fn_of_wpx (O := lex) tab_ok gamOr_ok mixed Try.func6 (by kernel_rfl) rfl rfl rfl (by simp [Try.ntmps6]) (by kernel_rfl) ?_
  have hs1 := hs.1
  have ht1 := ht.1
  conv => whnf
  repeat' (first
    | (refine NilG.mk fun bn hbn hbx => ?_; conv => whnf)
    | (refine Both.mk ?_ ?_ <;> conv => whnf)
    | exact trivial
    | (refine Br.mk (fun hb => ?_) (fun hb => ?_) <;> (first | (exfalso; revert hb; decide) | ((try simp only [BL] at hb) <;> (try simp only [DL] at hb) <;> conv => whnf)))
    | (refine And.intro ?_ ?_; (focus (first | exact id | exact rfl | exact trivial | (intro hg; first | exact hg | exact rfl | (simp; done) | (simp at hg ⊢; assumption)) | omega | decide | exact is2_c _ _ _ | exact is1_c _ _ | exact isS_c _ _ | exact isB_c _ _ | exact Nat.le_refl _ | assumption | exact mulLe (by decide) (by omega) | exact mulLe2 (by decide) (by omega) (by omega) | (intros; simp only [BL] at *; omega) | (intros; (try simp only [BL] at *); (try simp only [DL] at *); omega) | (intros; simp only [BL] at *; rw [wr_id (by omega) (by omega)]; omega) | (intro h1 h2; exact Bool.and_eq_true_iff.2 ⟨h1, h2⟩) | (intros; simp_all; done))); conv => whnf)
    | (refine Or.inr (And.intro rfl ?_); first | (refine congrArg intV ?_) | (refine congrArg boolV ?_) | (refine tupII ?_ ?_) | (refine tupIII ?_ ?_ ?_) | (refine tupU ?_ ?_ ?_ ?_ ?_) | exact rfl))
  refine CallG.mk (Fn.mono (orFact.le (Le.cons (Le1.l (LLe.sl fun k hk j hj => ?_)) (Le.cons (Le1.sl fun k hk j hj => ?_) (Le.cons (Le1.sl fun k hk j hj => ?_) (Le.cons Le1.nil Le.nil))))) ?_)
  · match k, j, hk, hj with
    | 0, 0, _, _ => exact LLe.of_eq rfl
    | 0, 1, _, _ => exact LLe.of_eq rfl
    | 0, 2, _, _ => exact LLe.sl fun a ha b hb9 => (match a, b, ha, hb9 with | 0, 0, _, _ => LLe.of_eq rfl | 0, 1, _, _ => LLe.of_eq rfl | 0, 2, _, _ => LLe.of_eq rfl | 0, 3, _, _ => LLe.of_eq rfl)
  · exact (match k, j, hk, hj with | 0, 0, _, _ => rfl | 0, 1, _, _ => rfl | 1, 0, _, _ => rfl | 1, 1, _, _ => rfl)
  · exact (match k, j, hk, hj with | 0, 0, _, _ => rfl | 0, 1, _, _ => rfl | 1, 0, _, _ => rfl | 1, 1, _, _ => rfl)
  rintro obs r ⟨rfl, rfl⟩
  conv => whnf
  repeat' (first
    | (refine NilG.mk fun bn hbn hbx => ?_; conv => whnf)
    | (refine Both.mk ?_ ?_ <;> conv => whnf)
    | exact trivial
    | (refine Br.mk (fun hb => ?_) (fun hb => ?_) <;> (first | (exfalso; revert hb; decide) | ((try simp only [BL] at hb) <;> (try simp only [DL] at hb) <;> conv => whnf)))
    | (refine And.intro ?_ ?_; (focus (first | exact id | exact rfl | exact trivial | (intro hg; first | exact hg | exact rfl | (simp; done) | (simp at hg ⊢; assumption)) | omega | decide | exact is2_c _ _ _ | exact is1_c _ _ | exact isS_c _ _ | exact isB_c _ _ | exact Nat.le_refl _ | assumption | exact mulLe (by decide) (by omega) | exact mulLe2 (by decide) (by omega) (by omega) | (intros; simp only [BL] at *; omega) | (intros; (try simp only [BL] at *); (try simp only [DL] at *); omega) | (intros; simp only [BL] at *; rw [wr_id (by omega) (by omega)]; omega) | (intro h1 h2; exact Bool.and_eq_true_iff.2 ⟨h1, h2⟩) | first | exact ⟨rfl, by omega, by decide⟩ | exact fun _ => ⟨rfl, by omega, by decide⟩ | (intros; simp_all; done))); conv => whnf)
    | (refine Or.inr (And.intro rfl ?_); first | (refine congrArg intV ?_) | (refine congrArg boolV ?_) | (refine tupII ?_ ?_) | (refine tupIII ?_ ?_ ?_) | (refine tupU ?_ ?_ ?_ ?_ ?_) | exact rfl))
  · exfalso
    rcases hb with ((h | h) | h | h | h) | h | h | h
    all_goals first
      | exact h trivial
      | (revert h; decide)
      | (revert h; decide +kernel)
  clear hb
  obtain ⟨s', hs'⟩ : ∃ s' : Sts, s' = ⟨(min (s.n : Int) 3).toNat - Int.toNat 0, fun k => s.nm (Int.toNat 0 + k), fun k => s.cl (Int.toNat 0 + k)⟩ := ⟨_, rfl⟩
  obtain ⟨t', ht'⟩ : ∃ t' : Sts, t' = ⟨(min (t.n : Int) 3).toNat - Int.toNat 0, fun k => t.nm (Int.toNat 0 + k), fun k => t.cl (Int.toNat 0 + k)⟩ := ⟨_, rfl⟩
  obtain ⟨n, hn⟩ : ∃ n, n = (min (hN : Int) 3).toNat - Int.toNat 0 := ⟨_, rfl⟩
  obtain ⟨q, hq⟩ : ∃ q : Nat → ByteArray, q = fun k => H (Int.toNat 0 + k) := ⟨_, rfl⟩
  have es : stV s' = .c (.sl 2 ((min (s.n : Int) 3).toNat - Int.toNat 0) fun k j => cSt s (Int.toNat 0 + k) j) := by rw [hs']; rfl
  have et : stV t' = .c (.sl 2 ((min (t.n : Int) 3).toNat - Int.toNat 0) fun k j => cSt t (Int.toNat 0 + k) j) := by rw [ht']; rfl
  have eq : (fun k j => cS H (Int.toNat 0 + k) j) = cS q := by rw [hq]; rfl
  have hs3 : s'.n ≤ 3 := by rw [hs']; show (min (s.n : Int) 3).toNat - 0 ≤ 3; omega
  have ht3 : t'.n ≤ 3 := by rw [ht']; show (min (t.n : Int) 3).toNat - 0 ≤ 3; omega
  have hn3 : n ≤ 3 := by rw [hn]; show (min (hN : Int) 3).toNat - 0 ≤ 3; omega
  have hso : s'.ok := by
    rw [hs']
    exact ⟨by show (min (s.n : Int) 3).toNat - 0 ≤ maxLen; omega, fun k hk => hs.2 _ (by have hk : k < (min (s.n : Int) 3).toNat - 0 := hk; show 0 + k < s.n; omega)⟩
  have hto : t'.ok := by
    rw [ht']
    exact ⟨by show (min (t.n : Int) 3).toNat - 0 ≤ maxLen; omega, fun k hk => ht.2 _ (by have hk : k < (min (t.n : Int) 3).toNat - 0 := hk; show 0 + k < t.n; omega)⟩
  have hnm : n ≤ maxLen := by unfold maxLen; omega
  have hs'1 := hso.1
  have ht'1 := hto.1
  rw [← es, ← et, eq, ← hn]
  clear es et eq hs' ht' hn hq
  by_cases hz : rlsE r = 0 ∧ stsE s' = 0 ∧ stsE t' = 0
  rotate_left
  · have hE : chE r s' t' n = if rlsE r = 0 then (if stsE s' = 0 then stsE t' else stsE s') else rlsE r := by
      unfold chE
      by_cases h1 : rlsE r = 0
      · rw [if_pos h1, if_pos h1]
        by_cases h2 : stsE s' = 0
        · rw [if_pos h2, if_pos h2]
          by_cases h3 : stsE t' = 0
          · exact absurd ⟨h1, h2, h3⟩ hz
          · rw [if_neg h3]
        · rw [if_neg h2, if_neg h2]
      · rw [if_neg h1, if_neg h1]
    have hne : chE r s' t' n ≠ 0 := by
      rw [hE]
      by_cases h1 : rlsE r = 0
      · rw [if_pos h1]
        by_cases h2 : stsE s' = 0
        · rw [if_pos h2]
          exact fun h3 => hz ⟨h1, h2, h3⟩
        · rw [if_neg h2]; exact h2
      · rw [if_neg h1]; exact h1
    refine CallG.mk (Fn.mono (orPlanE r s' t' n q hr hso hto hnm hne) ?_)
    rintro obs r' ⟨rfl, rfl⟩
    obtain ⟨E, hEE⟩ : ∃ E, E = chE r s' t' n := ⟨_, rfl⟩
    rw [← hEE] at hE hne ⊢
    conv => whnf
    repeat' (first
      | (refine NilG.mk fun bn hbn hbx => ?_; conv => whnf)
      | (refine Both.mk ?_ ?_ <;> conv => whnf)
      | exact trivial
      | (refine Br.mk (fun hb => ?_) (fun hb => ?_) <;> (first | (exfalso; revert hb; decide) | ((try simp only [BL] at hb) <;> (try simp only [DL] at hb) <;> conv => whnf)))
      | (refine And.intro ?_ ?_; (focus (first | exact id | exact rfl | exact trivial | (intro hg; first | exact hg | exact rfl | (simp; done) | (simp at hg ⊢; assumption)) | omega | decide | exact is2_c _ _ _ | exact is1_c _ _ | exact isS_c _ _ | exact isB_c _ _ | exact Nat.le_refl _ | assumption | exact mulLe (by decide) (by omega) | exact mulLe2 (by decide) (by omega) (by omega) | (intros; simp only [BL] at *; omega) | (intros; (try simp only [BL] at *); (try simp only [DL] at *); omega) | (intros; simp only [BL] at *; rw [wr_id (by omega) (by omega)]; omega) | (intro h1 h2; exact Bool.and_eq_true_iff.2 ⟨h1, h2⟩) | first | exact ⟨isR_c r, hr⟩ | exact ⟨isSt_c s' _, hso⟩ | exact ⟨isSt_c t' _, hto⟩ | (intros; simp_all; done))); conv => whnf)
      | (refine Or.inr (And.intro rfl ?_); first | (refine congrArg intV ?_) | (refine congrArg boolV ?_) | (refine tupII ?_ ?_) | (refine tupIII ?_ ?_ ?_) | (refine tupU ?_ ?_ ?_ ?_ ?_) | exact rfl))
    refine sem_loop tab_ok gamOr_ok mixed (by kernel_rfl) (O := lex) (fun i : Nat => ⟨[(11, intV E), (12, .c (.v (.slice none 0 0))), (84, .agg [intV (rlsE r), intV (stsE s'), intV (stsE t')]), (85, intV i)], []⟩) (fun i => i ≤ 3 ∧ (0 < i → rlsE r = 0) ∧ (1 < i → stsE s' = 0) ∧ (2 < i → stsE t' = 0)) (fun i => 3 - i) ⟨0, [], ⟨Nat.zero_le _, (fun h => absurd h (Nat.lt_irrefl _)), (fun h => by omega), fun h => by omega⟩, ?_⟩ fun i hi => ?_
    · refine Sub.of ?_ ?_ ?_
      repeat' (first | (refine And.intro ?_ ?_) | exact trivial | exact fun _ _ _ => hsc _ _ | (exact congrArg intV (by first | with_reducible rfl | with_reducible assumption)) | exact (rfl : AV.idsLt _ _ = true) | exact (rfl : _ = AV.ren _ (.own _)) | exact (rfl : _ = AV.ren _ (.fn _ _)) | exact (rfl : _ = AV.ren _ (.gh _)) | (exact congrArg intV (by assumption)) | (refine congrArg intV ((wr_id (by omega) (by omega)).trans (by omega))) | exact rfl | (simp only [Int.toNat_natCast, Int.toNat_zero, Nat.sub_zero, Nat.zero_add]; first | exact rfl | done) | exact all0 | exact fun h => Bool.noConfusion h | exact fun _ _ _ _ => rfl | omega)
    match i, hi with
    | 0, _ =>
      conv => whnf
      repeat' (first
        | (refine NilG.mk fun bn hbn hbx => ?_; conv => whnf)
        | (refine Both.mk ?_ ?_ <;> conv => whnf)
        | exact trivial
        | (refine Br.mk (fun hb => ?_) (fun hb => ?_) <;> (first | (exfalso; revert hb; decide) | ((try simp only [BL] at hb) <;> (try simp only [DL] at hb) <;> (first | (exfalso; omega) | (conv => whnf)))))
        | (refine And.intro ?_ ?_; (focus (first | exact id | exact rfl | exact trivial | (intro hg; first | exact hg | exact rfl | (simp; done) | (simp at hg ⊢; assumption)) | omega | decide | exact is2_c _ _ _ | exact is1_c _ _ | exact isS_c _ _ | exact isB_c _ _ | exact Nat.le_refl _ | assumption | exact mulLe (by decide) (by omega) | exact mulLe2 (by decide) (by omega) (by omega) | (intros; simp only [BL] at *; omega) | (intros; (try simp only [BL] at *); (try simp only [DL] at *); omega) | (intros; simp only [BL] at *; rw [wr_id (by omega) (by omega)]; omega) | (intro h1 h2; exact Bool.and_eq_true_iff.2 ⟨h1, h2⟩) | first | exact ⟨rfl, by omega, by decide⟩ | (intros; simp_all; done))); conv => whnf)
        | (refine Or.inr (And.intro rfl ?_); first | (refine congrArg intV ?_) | (refine congrArg boolV ?_) | (refine tupII ?_ ?_) | (refine tupIII ?_ ?_ ?_) | (refine tupU ?_ ?_ ?_ ?_ ?_) | exact rfl))
      · rw [if_neg hb] at hE
        rw [hE]
        simp
      · refine ⟨1, [], ⟨by omega, (fun _ => hb), (fun h => by omega), fun h => by omega⟩, by omega, ?_⟩
        refine Sub.of ?_ ?_ ?_
        repeat' (first | (refine And.intro ?_ ?_) | exact trivial | exact fun _ _ _ => hsc _ _ | (exact congrArg intV (by first | with_reducible rfl | with_reducible assumption)) | exact (rfl : AV.idsLt _ _ = true) | exact (rfl : _ = AV.ren _ (.own _)) | exact (rfl : _ = AV.ren _ (.fn _ _)) | exact (rfl : _ = AV.ren _ (.gh _)) | (exact congrArg intV (by assumption)) | (refine congrArg intV ((wr_id (by omega) (by omega)).trans (by omega))) | exact rfl | (simp only [Int.toNat_natCast, Int.toNat_zero, Nat.sub_zero, Nat.zero_add]; first | exact rfl | done) | exact all0 | exact fun h => Bool.noConfusion h | exact fun _ _ _ _ => rfl | omega)
    | 1, hi =>
      have h1 := hi.2.1 (by decide)
      rw [if_pos h1] at hE
      conv => whnf
      repeat' (first
        | (refine NilG.mk fun bn hbn hbx => ?_; conv => whnf)
        | (refine Both.mk ?_ ?_ <;> conv => whnf)
        | exact trivial
        | (refine Br.mk (fun hb => ?_) (fun hb => ?_) <;> (first | (exfalso; revert hb; decide) | ((try simp only [BL] at hb) <;> (try simp only [DL] at hb) <;> (first | (exfalso; omega) | (conv => whnf)))))
        | (refine And.intro ?_ ?_; (focus (first | exact id | exact rfl | exact trivial | (intro hg; first | exact hg | exact rfl | (simp; done) | (simp at hg ⊢; assumption)) | omega | decide | exact is2_c _ _ _ | exact is1_c _ _ | exact isS_c _ _ | exact isB_c _ _ | exact Nat.le_refl _ | assumption | exact mulLe (by decide) (by omega) | exact mulLe2 (by decide) (by omega) (by omega) | (intros; simp only [BL] at *; omega) | (intros; (try simp only [BL] at *); (try simp only [DL] at *); omega) | (intros; simp only [BL] at *; rw [wr_id (by omega) (by omega)]; omega) | (intro h1 h2; exact Bool.and_eq_true_iff.2 ⟨h1, h2⟩) | first | exact ⟨rfl, by omega, by decide⟩ | (intros; simp_all; done))); conv => whnf)
        | (refine Or.inr (And.intro rfl ?_); first | (refine congrArg intV ?_) | (refine congrArg boolV ?_) | (refine tupII ?_ ?_) | (refine tupIII ?_ ?_ ?_) | (refine tupU ?_ ?_ ?_ ?_ ?_) | exact rfl))
      · rw [if_neg hb] at hE
        rw [hE]
        simp
      · refine ⟨2, [], ⟨by omega, (fun _ => h1), (fun _ => hb), fun h => by omega⟩, by omega, ?_⟩
        refine Sub.of ?_ ?_ ?_
        repeat' (first | (refine And.intro ?_ ?_) | exact trivial | exact fun _ _ _ => hsc _ _ | (exact congrArg intV (by first | with_reducible rfl | with_reducible assumption)) | exact (rfl : AV.idsLt _ _ = true) | exact (rfl : _ = AV.ren _ (.own _)) | exact (rfl : _ = AV.ren _ (.fn _ _)) | exact (rfl : _ = AV.ren _ (.gh _)) | (exact congrArg intV (by assumption)) | (refine congrArg intV ((wr_id (by omega) (by omega)).trans (by omega))) | exact rfl | (simp only [Int.toNat_natCast, Int.toNat_zero, Nat.sub_zero, Nat.zero_add]; first | exact rfl | done) | exact all0 | exact fun h => Bool.noConfusion h | exact fun _ _ _ _ => rfl | omega)
    | 2, hi =>
      have h1 := hi.2.1 (by decide)
      have h2 := hi.2.2.1 (by decide)
      rw [if_pos h1, if_pos h2] at hE
      conv => whnf
      repeat' (first
        | (refine NilG.mk fun bn hbn hbx => ?_; conv => whnf)
        | (refine Both.mk ?_ ?_ <;> conv => whnf)
        | exact trivial
        | (refine Br.mk (fun hb => ?_) (fun hb => ?_) <;> (first | (exfalso; revert hb; decide) | ((try simp only [BL] at hb) <;> (try simp only [DL] at hb) <;> (first | (exfalso; omega) | (conv => whnf)))))
        | (refine And.intro ?_ ?_; (focus (first | exact id | exact rfl | exact trivial | (intro hg; first | exact hg | exact rfl | (simp; done) | (simp at hg ⊢; assumption)) | omega | decide | exact is2_c _ _ _ | exact is1_c _ _ | exact isS_c _ _ | exact isB_c _ _ | exact Nat.le_refl _ | assumption | exact mulLe (by decide) (by omega) | exact mulLe2 (by decide) (by omega) (by omega) | (intros; simp only [BL] at *; omega) | (intros; (try simp only [BL] at *); (try simp only [DL] at *); omega) | (intros; simp only [BL] at *; rw [wr_id (by omega) (by omega)]; omega) | (intro h1 h2; exact Bool.and_eq_true_iff.2 ⟨h1, h2⟩) | first | exact ⟨rfl, by omega, by decide⟩ | (intros; simp_all; done))); conv => whnf)
        | (refine Or.inr (And.intro rfl ?_); first | (refine congrArg intV ?_) | (refine congrArg boolV ?_) | (refine tupII ?_ ?_) | (refine tupIII ?_ ?_ ?_) | (refine tupU ?_ ?_ ?_ ?_ ?_) | exact rfl))
      · rw [hE]
        simp
    | 3, hi => exact absurd ⟨hi.2.1 (by decide), hi.2.2.1 (by decide), hi.2.2.2 (by decide)⟩ hz
  obtain ⟨z1, z2, z3⟩ := hz
  refine CallG.mk (Fn.mono (orPlanA r s' t' n q hr hso hto hn3 hs3 z1 z2 z3) ?_)
  rintro obs r' ⟨rfl, gl, E, rfl, hA1, hA2⟩
  conv => whnf
  repeat' (first
    | (refine NilG.mk fun bn hbn hbx => ?_; conv => whnf)
    | (refine Both.mk ?_ ?_ <;> conv => whnf)
    | exact trivial
    | (refine Br.mk (fun hb => ?_) (fun hb => ?_) <;> (first | (exfalso; revert hb; decide) | ((try simp only [BL] at hb) <;> (try simp only [DL] at hb) <;> conv => whnf)))
    | (refine And.intro ?_ ?_; (focus (first | exact id | exact rfl | exact trivial | (intro hg; first | exact hg | exact rfl | (simp; done) | (simp at hg ⊢; assumption)) | omega | decide | exact is2_c _ _ _ | exact is1_c _ _ | exact isS_c _ _ | exact isB_c _ _ | exact Nat.le_refl _ | assumption | exact mulLe (by decide) (by omega) | exact mulLe2 (by decide) (by omega) (by omega) | (intros; simp only [BL] at *; omega) | (intros; (try simp only [BL] at *); (try simp only [DL] at *); omega) | (intros; simp only [BL] at *; rw [wr_id (by omega) (by omega)]; omega) | (intro h1 h2; exact Bool.and_eq_true_iff.2 ⟨h1, h2⟩) | first | exact ⟨isR_c r, hr⟩ | exact ⟨isSt_c s' _, hso⟩ | exact ⟨isSt_c t' _, hto⟩ | (intros; simp_all; done))); conv => whnf)
    | (refine Or.inr (And.intro rfl ?_); first | (refine congrArg intV ?_) | (refine congrArg boolV ?_) | (refine tupII ?_ ?_) | (refine tupIII ?_ ?_ ?_) | (refine tupU ?_ ?_ ?_ ?_ ?_) | exact rfl))
  refine sem_loop tab_ok gamOr_ok mixed (by kernel_rfl) (O := lex) (fun i : Nat => ⟨[(0, rlV r), (1, stV s'), (2, stV t'), (3, .c (.sl 1 n (cS q))), (11, intV E), (12, .c (.sl 2 gl.length (cOs s'.nm gl))), (84, .agg [intV (rlsE r), intV (stsE s'), intV (stsE t')]), (85, intV i)], []⟩) (fun i => i ≤ 3) (fun i => 3 - i) ⟨0, [], Nat.zero_le _, ?_⟩ fun i hi => ?_
  · refine Sub.of ?_ ?_ ?_
    repeat' (first | (refine And.intro ?_ ?_) | exact trivial | exact fun _ _ _ => hsc _ _ | (exact congrArg intV (by first | with_reducible rfl | with_reducible assumption)) | exact (rfl : AV.idsLt _ _ = true) | exact (rfl : _ = AV.ren _ (.own _)) | exact (rfl : _ = AV.ren _ (.fn _ _)) | exact (rfl : _ = AV.ren _ (.gh _)) | (exact congrArg intV (by assumption)) | (refine congrArg intV ((wr_id (by omega) (by omega)).trans (by omega))) | exact rfl | (simp only [Int.toNat_natCast, Int.toNat_zero, Nat.sub_zero, Nat.zero_add]; first | exact rfl | done) | exact all0 | exact fun h => Bool.noConfusion h | exact fun _ _ _ _ => rfl | omega)
  match i, hi with
  | 0, _ =>
    conv => whnf
    repeat' (first
      | (refine NilG.mk fun bn hbn hbx => ?_; conv => whnf)
      | (refine Both.mk ?_ ?_ <;> conv => whnf)
      | exact trivial
      | (refine Br.mk (fun hb => ?_) (fun hb => ?_) <;> (first | (exfalso; revert hb; decide) | ((try simp only [BL] at hb) <;> (try simp only [DL] at hb) <;> (first | (exfalso; omega) | (conv => whnf)))))
      | (refine And.intro ?_ ?_; (focus (first | exact id | exact rfl | exact trivial | (intro hg; first | exact hg | exact rfl | (simp; done) | (simp at hg ⊢; assumption)) | omega | decide | exact is2_c _ _ _ | exact is1_c _ _ | exact isS_c _ _ | exact isB_c _ _ | exact Nat.le_refl _ | assumption | exact mulLe (by decide) (by omega) | exact mulLe2 (by decide) (by omega) (by omega) | (intros; simp only [BL] at *; omega) | (intros; (try simp only [BL] at *); (try simp only [DL] at *); omega) | (intros; simp only [BL] at *; rw [wr_id (by omega) (by omega)]; omega) | (intro h1 h2; exact Bool.and_eq_true_iff.2 ⟨h1, h2⟩) | first | exact ⟨rfl, by omega, by decide⟩ | (intros; simp_all; done))); conv => whnf)
      | (refine Or.inr (And.intro rfl ?_); first | (refine congrArg intV ?_) | (refine congrArg boolV ?_) | (refine tupII ?_ ?_) | (refine tupIII ?_ ?_ ?_) | (refine tupU ?_ ?_ ?_ ?_ ?_) | exact rfl))
    refine ⟨1, [], (by omega : 1 ≤ 3), by omega, ?_⟩
    refine Sub.of ?_ ?_ ?_
    repeat' (first | (refine And.intro ?_ ?_) | exact trivial | exact fun _ _ _ => hsc _ _ | (exact congrArg intV (by first | with_reducible rfl | with_reducible assumption)) | exact (rfl : AV.idsLt _ _ = true) | exact (rfl : _ = AV.ren _ (.own _)) | exact (rfl : _ = AV.ren _ (.fn _ _)) | exact (rfl : _ = AV.ren _ (.gh _)) | (exact congrArg intV (by assumption)) | (refine congrArg intV ((wr_id (by omega) (by omega)).trans (by omega))) | exact rfl | (simp only [Int.toNat_natCast, Int.toNat_zero, Nat.sub_zero, Nat.zero_add]; first | exact rfl | done) | exact all0 | exact fun h => Bool.noConfusion h | exact fun _ _ _ _ => rfl | omega)
  | 1, _ =>
    conv => whnf
    repeat' (first
      | (refine NilG.mk fun bn hbn hbx => ?_; conv => whnf)
      | (refine Both.mk ?_ ?_ <;> conv => whnf)
      | exact trivial
      | (refine Br.mk (fun hb => ?_) (fun hb => ?_) <;> (first | (exfalso; revert hb; decide) | ((try simp only [BL] at hb) <;> (try simp only [DL] at hb) <;> (first | (exfalso; omega) | (conv => whnf)))))
      | (refine And.intro ?_ ?_; (focus (first | exact id | exact rfl | exact trivial | (intro hg; first | exact hg | exact rfl | (simp; done) | (simp at hg ⊢; assumption)) | omega | decide | exact is2_c _ _ _ | exact is1_c _ _ | exact isS_c _ _ | exact isB_c _ _ | exact Nat.le_refl _ | assumption | exact mulLe (by decide) (by omega) | exact mulLe2 (by decide) (by omega) (by omega) | (intros; simp only [BL] at *; omega) | (intros; (try simp only [BL] at *); (try simp only [DL] at *); omega) | (intros; simp only [BL] at *; rw [wr_id (by omega) (by omega)]; omega) | (intro h1 h2; exact Bool.and_eq_true_iff.2 ⟨h1, h2⟩) | first | exact ⟨rfl, by omega, by decide⟩ | (intros; simp_all; done))); conv => whnf)
      | (refine Or.inr (And.intro rfl ?_); first | (refine congrArg intV ?_) | (refine congrArg boolV ?_) | (refine tupII ?_ ?_) | (refine tupIII ?_ ?_ ?_) | (refine tupU ?_ ?_ ?_ ?_ ?_) | exact rfl))
    refine ⟨2, [], (by omega : 2 ≤ 3), by omega, ?_⟩
    refine Sub.of ?_ ?_ ?_
    repeat' (first | (refine And.intro ?_ ?_) | exact trivial | exact fun _ _ _ => hsc _ _ | (exact congrArg intV (by first | with_reducible rfl | with_reducible assumption)) | exact (rfl : AV.idsLt _ _ = true) | exact (rfl : _ = AV.ren _ (.own _)) | exact (rfl : _ = AV.ren _ (.fn _ _)) | exact (rfl : _ = AV.ren _ (.gh _)) | (exact congrArg intV (by assumption)) | (refine congrArg intV ((wr_id (by omega) (by omega)).trans (by omega))) | exact rfl | (simp only [Int.toNat_natCast, Int.toNat_zero, Nat.sub_zero, Nat.zero_add]; first | exact rfl | done) | exact all0 | exact fun h => Bool.noConfusion h | exact fun _ _ _ _ => rfl | omega)
  | 2, _ =>
    conv => whnf
    repeat' (first
      | (refine NilG.mk fun bn hbn hbx => ?_; conv => whnf)
      | (refine Both.mk ?_ ?_ <;> conv => whnf)
      | exact trivial
      | (refine Br.mk (fun hb => ?_) (fun hb => ?_) <;> (first | (exfalso; revert hb; decide) | ((try simp only [BL] at hb) <;> (try simp only [DL] at hb) <;> (first | (exfalso; omega) | (conv => whnf)))))
      | (refine And.intro ?_ ?_; (focus (first | exact id | exact rfl | exact trivial | (intro hg; first | exact hg | exact rfl | (simp; done) | (simp at hg ⊢; assumption)) | omega | decide | exact is2_c _ _ _ | exact is1_c _ _ | exact isS_c _ _ | exact isB_c _ _ | exact Nat.le_refl _ | assumption | exact mulLe (by decide) (by omega) | exact mulLe2 (by decide) (by omega) (by omega) | (intros; simp only [BL] at *; omega) | (intros; (try simp only [BL] at *); (try simp only [DL] at *); omega) | (intros; simp only [BL] at *; rw [wr_id (by omega) (by omega)]; omega) | (intro h1 h2; exact Bool.and_eq_true_iff.2 ⟨h1, h2⟩) | first | exact ⟨rfl, by omega, by decide⟩ | (intros; simp_all; done))); conv => whnf)
      | (refine Or.inr (And.intro rfl ?_); first | (refine congrArg intV ?_) | (refine congrArg boolV ?_) | (refine tupII ?_ ?_) | (refine tupIII ?_ ?_ ?_) | (refine tupU ?_ ?_ ?_ ?_ ?_) | exact rfl))
    refine ⟨3, [], (by omega : 3 ≤ 3), by omega, ?_⟩
    refine Sub.of ?_ ?_ ?_
    repeat' (first | (refine And.intro ?_ ?_) | exact trivial | exact fun _ _ _ => hsc _ _ | (exact congrArg intV (by first | with_reducible rfl | with_reducible assumption)) | exact (rfl : AV.idsLt _ _ = true) | exact (rfl : _ = AV.ren _ (.own _)) | exact (rfl : _ = AV.ren _ (.fn _ _)) | exact (rfl : _ = AV.ren _ (.gh _)) | (exact congrArg intV (by assumption)) | (refine congrArg intV ((wr_id (by omega) (by omega)).trans (by omega))) | exact rfl | (simp only [Int.toNat_natCast, Int.toNat_zero, Nat.sub_zero, Nat.zero_add]; first | exact rfl | done) | exact all0 | exact fun h => Bool.noConfusion h | exact fun _ _ _ _ => rfl | omega)
  | 3, _ =>
    conv => whnf
    repeat' (first
      | (refine NilG.mk fun bn hbn hbx => ?_; conv => whnf)
      | (refine Both.mk ?_ ?_ <;> conv => whnf)
      | exact trivial
      | (refine Br.mk (fun hb => ?_) (fun hb => ?_) <;> (first | (exfalso; revert hb; decide) | ((try simp only [BL] at hb) <;> (try simp only [DL] at hb) <;> (first | (exfalso; omega) | (conv => whnf)))))
      | (refine And.intro ?_ ?_; (focus (first | exact id | exact rfl | exact trivial | (intro hg; first | exact hg | exact rfl | (simp; done) | (simp at hg ⊢; assumption)) | omega | decide | exact is2_c _ _ _ | exact is1_c _ _ | exact isS_c _ _ | exact isB_c _ _ | exact Nat.le_refl _ | assumption | exact mulLe (by decide) (by omega) | exact mulLe2 (by decide) (by omega) (by omega) | (intros; simp only [BL] at *; omega) | (intros; (try simp only [BL] at *); (try simp only [DL] at *); omega) | (intros; simp only [BL] at *; rw [wr_id (by omega) (by omega)]; omega) | (intro h1 h2; exact Bool.and_eq_true_iff.2 ⟨h1, h2⟩) | first | exact ⟨rfl, by omega, by decide⟩ | (intros; simp_all; done))); conv => whnf)
      | (refine Or.inr (And.intro rfl ?_); first | (refine congrArg intV ?_) | (refine congrArg boolV ?_) | (refine tupII ?_ ?_) | (refine tupIII ?_ ?_ ?_) | (refine tupU ?_ ?_ ?_ ?_ ?_) | exact rfl))
    refine sem_loop tab_ok gamOr_ok mixed (by kernel_rfl) (O := lex) (fun y : Nat × Bool => ⟨[(0, rlV r), (1, stV s'), (2, stV t'), (3, .c (.sl 1 n (cS q))), (11, intV E), (12, .c (.sl 2 gl.length (cOs s'.nm gl))), (15, boolV y.2), (16, intV y.1)], []⟩) (fun y => y.1 ≤ s'.n + 1 ∧ (y.2 = true → y.1 ≤ s'.n ∧ s'.n = t'.n ∧ ∀ k, k < y.1 → s'.nm k = t'.nm k) ∧ (y.2 = false → alB s' t' = false)) (fun y => s'.n + 1 - y.1) ⟨(0, decide (s'.n = t'.n)), [], ⟨Nat.zero_le _, (fun h => ⟨Nat.zero_le _, of_decide_eq_true h, fun k hk => absurd hk (Nat.not_lt_zero _)⟩), fun h => Bool.eq_false_iff.2 fun h2 => of_decide_eq_false h (alB_iff.1 h2).1⟩, ?_⟩ fun y hy => ?_
    · refine Sub.of ?_ ?_ ?_
      repeat' (first | (refine And.intro ?_ ?_) | exact trivial | exact fun _ _ _ => hsc _ _ | (exact congrArg intV (by first | with_reducible rfl | with_reducible assumption)) | exact (rfl : AV.idsLt _ _ = true) | exact (rfl : _ = AV.ren _ (.own _)) | exact (rfl : _ = AV.ren _ (.fn _ _)) | exact (rfl : _ = AV.ren _ (.gh _)) | (exact congrArg intV (by assumption)) | (refine congrArg intV ((wr_id (by omega) (by omega)).trans (by omega))) | exact rfl | (simp only [Int.toNat_natCast, Int.toNat_zero, Nat.sub_zero, Nat.zero_add]; first | exact rfl | done) | exact all0 | exact fun h => Bool.noConfusion h | exact fun _ _ _ _ => rfl | omega)
      · refine congrArg boolV ?_
        rw [Bool.eq_iff_iff, beq_iff_eq, decide_eq_true_eq]
        omega
    obtain ⟨i, v⟩ := y
    obtain ⟨y1, y2, y3⟩ := hy
    dsimp only at y1 y2 y3 ⊢
    by_cases hv : v = true
    · subst hv
      obtain ⟨y4, y5, y6⟩ := y2 rfl
      by_cases hin : i < s'.n
      · conv => whnf
        repeat' (first
          | (refine NilG.mk fun bn hbn hbx => ?_; conv => whnf)
          | (refine Both.mk ?_ ?_ <;> conv => whnf)
          | exact trivial
          | (refine Br.mk (fun hb => ?_) (fun hb => ?_) <;> (first | (exfalso; revert hb; decide) | ((try simp only [BL] at hb) <;> (try simp only [DL] at hb) <;> (first | (exfalso; omega) | (conv => whnf)))))
          | (refine And.intro ?_ ?_; (focus (first | exact id | exact rfl | exact trivial | (intro hg; first | exact hg | exact rfl | (simp; done) | (simp at hg ⊢; assumption)) | omega | decide | exact is2_c _ _ _ | exact is1_c _ _ | exact isS_c _ _ | exact isB_c _ _ | exact Nat.le_refl _ | assumption | exact mulLe (by decide) (by omega) | exact mulLe2 (by decide) (by omega) (by omega) | (intros; simp only [BL] at *; omega) | (intros; (try simp only [BL] at *); (try simp only [DL] at *); omega) | (intros; simp only [BL] at *; rw [wr_id (by omega) (by omega)]; omega) | (intro h1 h2; exact Bool.and_eq_true_iff.2 ⟨h1, h2⟩) | first | exact ⟨rfl, by omega, by decide⟩ | exact fun _ => ⟨rfl, by omega, by decide⟩ | (intros; simp_all; done))); conv => whnf)
          | (refine Or.inr (And.intro rfl ?_); first | (refine congrArg intV ?_) | (refine congrArg boolV ?_) | (refine tupII ?_ ?_) | (refine tupIII ?_ ?_ ?_) | (refine tupU ?_ ?_ ?_ ?_ ?_) | exact rfl))
        · have hinv : i + 1 ≤ s'.n + 1 ∧ (((s'.nm i).toList == (t'.nm i).toList) = true → i + 1 ≤ s'.n ∧ s'.n = t'.n ∧ ∀ k, k < i + 1 → s'.nm k = t'.nm k) ∧ (((s'.nm i).toList == (t'.nm i).toList) = false → alB s' t' = false) := by
            refine ⟨by omega, fun h => ⟨by omega, y5, fun k hk => ?_⟩, fun h => ?_⟩
            · rcases Nat.lt_succ_iff_lt_or_eq.1 hk with h1 | rfl
              · exact y6 k h1
              · exact b_eq.1 h
            · refine Bool.eq_false_iff.2 fun h2 => ?_
              exact b_ne.1 h ((alB_iff.1 h2).2 i hin)
          have e16 : IntKind.i64.wrap ((i : Int) + 1) = ((i + 1 : Nat) : Int) := (wr_id (by omega) (by omega)).trans (by omega)
          refine ⟨(i + 1, (s'.nm i).toList == (t'.nm i).toList), [], hinv, (by show s'.n + 1 - (i + 1) < s'.n + 1 - i; omega), ?_⟩
          refine Sub.of ?_ ?_ ?_
          repeat' (first | (refine And.intro ?_ ?_) | exact trivial | exact fun _ _ _ => hsc _ _ | (exact congrArg intV (by first | with_reducible rfl | with_reducible assumption)) | exact (rfl : AV.idsLt _ _ = true) | exact (rfl : _ = AV.ren _ (.own _)) | exact (rfl : _ = AV.ren _ (.fn _ _)) | exact (rfl : _ = AV.ren _ (.gh _)) | (exact congrArg intV (by assumption)) | (refine congrArg intV ((wr_id (by omega) (by omega)).trans (by omega))) | exact rfl | (simp only [Int.toNat_natCast, Int.toNat_zero, Nat.sub_zero, Nat.zero_add]; first | exact rfl | done) | exact all0 | exact fun h => Bool.noConfusion h | exact fun _ _ _ _ => rfl | omega)
        · rename_i h9
          exfalso
          rcases h9 with h9 | h9
          · cases h9
          · omega
      · obtain rfl : i = s'.n := by omega
        have ha : alB s' t' = true := alB_iff.2 ⟨y5, y6⟩
        conv => whnf
        repeat' (first
          | (refine NilG.mk fun bn hbn hbx => ?_; conv => whnf)
          | (refine Both.mk ?_ ?_ <;> conv => whnf)
          | exact trivial
          | (refine Br.mk (fun hb => ?_) (fun hb => ?_) <;> (first | (exfalso; revert hb; decide) | ((try simp only [BL] at hb) <;> (try simp only [DL] at hb) <;> (first | (exfalso; omega) | (conv => whnf)))))
          | (refine And.intro ?_ ?_; (focus (first | exact id | exact rfl | exact trivial | (intro hg; first | exact hg | exact rfl | (simp; done) | (simp at hg ⊢; assumption)) | omega | decide | exact is2_c _ _ _ | exact is1_c _ _ | exact isS_c _ _ | exact isB_c _ _ | exact Nat.le_refl _ | assumption | exact mulLe (by decide) (by omega) | exact mulLe2 (by decide) (by omega) (by omega) | (intros; simp only [BL] at *; omega) | (intros; (try simp only [BL] at *); (try simp only [DL] at *); omega) | (intros; simp only [BL] at *; rw [wr_id (by omega) (by omega)]; omega) | (intro h1 h2; exact Bool.and_eq_true_iff.2 ⟨h1, h2⟩) | (intros; simp_all; done))); conv => whnf)
          | (refine Or.inr (And.intro rfl ?_); first | (refine congrArg intV ?_) | (refine congrArg boolV ?_) | (refine tupII ?_ ?_) | (refine tupIII ?_ ?_ ?_) | (refine tupU ?_ ?_ ?_ ?_ ?_) | exact rfl))
        obtain ⟨hA3, hA4⟩ := hA2 ha
        refine CallG.mk (Fn.mono (orPlnA r s' t' n q hr hso hn3 hs3 z1 z2 ha) ?_)
        rintro obs r' ⟨rfl, gl2, b2, rfl, h⟩
        rcases h with ⟨h1, rfl, rfl⟩ | ⟨l, h1, rfl, rfl⟩
        · obtain ⟨rfl, rfl⟩ := hA3 h1
          conv => whnf
          repeat' (first
            | (refine NilG.mk fun bn hbn hbx => ?_; conv => whnf)
            | (refine Both.mk ?_ ?_ <;> conv => whnf)
            | exact trivial
            | (refine Br.mk (fun hb => ?_) (fun hb => ?_) <;> (first | (exfalso; revert hb; decide) | ((try simp only [BL] at hb) <;> (try simp only [DL] at hb) <;> (first | (exfalso; omega) | (conv => whnf)))))
            | (refine And.intro ?_ ?_; (focus (first | exact id | exact rfl | exact trivial | (intro hg; first | exact hg | exact rfl | (simp; done) | (simp at hg ⊢; assumption)) | omega | decide | exact is2_c _ _ _ | exact is1_c _ _ | exact isS_c _ _ | exact isB_c _ _ | exact Nat.le_refl _ | assumption | exact mulLe (by decide) (by omega) | exact mulLe2 (by decide) (by omega) (by omega) | (intros; simp only [BL] at *; omega) | (intros; (try simp only [BL] at *); (try simp only [DL] at *); omega) | (intros; simp only [BL] at *; rw [wr_id (by omega) (by omega)]; omega) | (intro h1 h2; exact Bool.and_eq_true_iff.2 ⟨h1, h2⟩) | (intros; simp_all; done))); conv => whnf)
            | (refine Or.inr (And.intro rfl ?_); first | (refine congrArg intV ?_) | (refine congrArg boolV ?_) | (refine tupII ?_ ?_) | (refine tupIII ?_ ?_ ?_) | (refine tupU ?_ ?_ ?_ ?_ ?_) | exact rfl))
          all_goals rfl
        · obtain ⟨rfl, rfl⟩ := hA4 l h1
          conv => whnf
          repeat' (first
            | (refine NilG.mk fun bn hbn hbx => ?_; conv => whnf)
            | (refine Both.mk ?_ ?_ <;> conv => whnf)
            | exact trivial
            | (refine Br.mk (fun hb => ?_) (fun hb => ?_) <;> (first | (exfalso; revert hb; decide) | ((try simp only [BL] at hb) <;> (try simp only [DL] at hb) <;> (first | (exfalso; omega) | (conv => whnf)))))
            | (refine And.intro ?_ ?_; (focus (first | exact id | exact rfl | exact trivial | (intro hg; first | exact hg | exact rfl | (simp; done) | (simp at hg ⊢; assumption)) | omega | decide | exact is2_c _ _ _ | exact is1_c _ _ | exact isS_c _ _ | exact isB_c _ _ | exact Nat.le_refl _ | assumption | exact mulLe (by decide) (by omega) | exact mulLe2 (by decide) (by omega) (by omega) | (intros; simp only [BL] at *; omega) | (intros; (try simp only [BL] at *); (try simp only [DL] at *); omega) | (intros; simp only [BL] at *; rw [wr_id (by omega) (by omega)]; omega) | (intro h1 h2; exact Bool.and_eq_true_iff.2 ⟨h1, h2⟩) | (intros; simp_all; done))); conv => whnf)
            | (refine Or.inr (And.intro rfl ?_); first | (refine congrArg intV ?_) | (refine congrArg boolV ?_) | (refine tupII ?_ ?_) | (refine tupIII ?_ ?_ ?_) | (refine tupU ?_ ?_ ?_ ?_ ?_) | exact rfl))
          have hlen : (stp (codN s'.cl s'.n) l).length ≤ maxLen := by
            obtain ⟨j, _, hj, h3, _⟩ := pln_some h1
            have := (tri_some (by omega : s'.n ≤ 8) (codN_lt t'.cl s'.n) (codN_lt s'.cl s'.n) h3).1
            rw [stp_len]
            unfold maxLen
            omega
          refine And.intro (fun _ => ?_) (fun hg => absurd hg (by decide))
          refine CallG.mk (Fn.mono (orSame s'.nm (stp (codN s'.cl s'.n) l) hlen) ?_)
          rintro obs r' ⟨rfl, rfl⟩
          conv => whnf
          repeat' (first
            | (refine NilG.mk fun bn hbn hbx => ?_; conv => whnf)
            | (refine Both.mk ?_ ?_ <;> conv => whnf)
            | exact trivial
            | (refine Br.mk (fun hb => ?_) (fun hb => ?_) <;> (first | (exfalso; revert hb; decide) | ((try simp only [BL] at hb) <;> (try simp only [DL] at hb) <;> (first | (exfalso; omega) | (conv => whnf)))))
            | (refine And.intro ?_ ?_; (focus (first | exact id | exact rfl | exact trivial | (intro hg; first | exact hg | exact rfl | (simp; done) | (simp at hg ⊢; assumption)) | omega | decide | exact is2_c _ _ _ | exact is1_c _ _ | exact isS_c _ _ | exact isB_c _ _ | exact Nat.le_refl _ | assumption | exact mulLe (by decide) (by omega) | exact mulLe2 (by decide) (by omega) (by omega) | (intros; simp only [BL] at *; omega) | (intros; (try simp only [BL] at *); (try simp only [DL] at *); omega) | (intros; simp only [BL] at *; rw [wr_id (by omega) (by omega)]; omega) | (intro h1 h2; exact Bool.and_eq_true_iff.2 ⟨h1, h2⟩) | (intros; simp_all; done))); conv => whnf)
            | (refine Or.inr (And.intro rfl ?_); first | (refine congrArg intV ?_) | (refine congrArg boolV ?_) | (refine tupII ?_ ?_) | (refine tupIII ?_ ?_ ?_) | (refine tupU ?_ ?_ ?_ ?_ ?_) | exact rfl))
          all_goals rfl
    · have hv : v = false := by simpa using hv
      subst hv
      have ha := y3 rfl
      obtain ⟨rfl, rfl⟩ := hA1 ha
      conv => whnf
      repeat' (first
        | (refine NilG.mk fun bn hbn hbx => ?_; conv => whnf)
        | (refine Both.mk ?_ ?_ <;> conv => whnf)
        | exact trivial
        | (refine Br.mk (fun hb => ?_) (fun hb => ?_) <;> (first | (exfalso; revert hb; decide) | ((try simp only [BL] at hb) <;> (try simp only [DL] at hb) <;> (first | (exfalso; omega) | (conv => whnf)))))
        | (refine And.intro ?_ ?_; (focus (first | exact id | exact rfl | exact trivial | (intro hg; first | exact hg | exact rfl | (simp; done) | (simp at hg ⊢; assumption)) | omega | decide | exact is2_c _ _ _ | exact is1_c _ _ | exact isS_c _ _ | exact isB_c _ _ | exact Nat.le_refl _ | assumption | exact mulLe (by decide) (by omega) | exact mulLe2 (by decide) (by omega) (by omega) | (intros; simp only [BL] at *; omega) | (intros; (try simp only [BL] at *); (try simp only [DL] at *); omega) | (intros; simp only [BL] at *; rw [wr_id (by omega) (by omega)]; omega) | (intro h1 h2; exact Bool.and_eq_true_iff.2 ⟨h1, h2⟩) | (intros; simp_all; done))); conv => whnf)
        | (refine Or.inr (And.intro rfl ?_); first | (refine congrArg intV ?_) | (refine congrArg boolV ?_) | (refine tupII ?_ ?_) | (refine tupIII ?_ ?_ ?_) | (refine tupU ?_ ?_ ?_ ?_ ?_) | exact rfl))
      · exact absurd hb.1 (by decide)
      · rfl
def tyNodeO : Ty := .st (.cons (.i .i64) (.cons .s (.cons (.i .i64) (.cons (.i .i64) .nil))))
def tyRuleO : Ty := .st (.cons .b (.cons .s (.cons (.sl tyNodeO) .nil)))
def tyStO : Ty := .st (.cons .s (.cons .b .nil))
theorem orderPlans_own : ownKnob Try.prog.godebug = none := by kernel_rfl
theorem orderPlans_laid : laidOutB Try.prog = true := by kernel_rfl

set_option maxRecDepth 100000 in
theorem orderPlans_lifted (os : Os) (started : os.Started) (H : Type) (enc : TypeId × Value → H) :
    ReturnsInHanded {} Try.checked os 6 .any (Rows.orderPlansSpec.pre6 enc Try.prog Try.f6 Rows.orderPlansRow.domain false) (Rows.orderPlansSpec.post enc Try.prog Try.f6 false true false false) := by
  refine returnsInHanded_of_change (C := Try.checked) orderPlans_own started (by kernel_rfl) Try.func6
    (ChangeSpec.witness6 (enc := enc) (C := Try.checked) false ⟨#[], #[.slice none 0 0, .slice none 0 0, .slice none 0 0, .slice none 0 0], []⟩ 8 (by kernel_rfl) (by kernel_rfl) (by kernel_rfl) (by kernel_rfl)) ?_
  intro W base args ds gs before hval0 hW hcnd _
  have hval : ∀ (j : Nat) t v, Try.f6.params[j]? = some t → args[j]? = some v → Value.okWide Try.prog W .any base t v := hval0
  have hW' : DataW.Whole enc Try.prog Try.f6.params.toList Rows.orderPlansSpec.vars false W args.toList ds gs before := hW
  exact law_post (P := Try.prog) [.sl tyRuleO, .sl tyStO, .sl tyStO, .sl .s] (by kernel_rfl) orderPlans_laid (by kernel_rfl) rfl (tb := 4) rfl (by kernel_rfl) (fun ds h => by
    match ds, h with
    | [d1, d2, d3, d4], _ => rfl) (fun x hx => orLaw ⟨x.1.1, fun k => (x.1.2 k).1, fun k => (x.1.2 k).2.1, fun k => ⟨(x.1.2 k).2.2.1.1, fun j => ((x.1.2 k).2.2.1.2 j).1, fun j => ((x.1.2 k).2.2.1.2 j).2.1, fun j => ((x.1.2 k).2.2.1.2 j).2.2.1, fun j => ((x.1.2 k).2.2.1.2 j).2.2.2.1⟩⟩ ⟨x.2.1.1, fun k => (x.2.1.2 k).1, fun k => (x.2.1.2 k).2.1⟩ ⟨x.2.2.1.1, fun k => (x.2.2.1.2 k).1, fun k => (x.2.2.1.2 k).2.1⟩ x.2.2.2.1.1 x.2.2.2.1.2 ⟨hx.1.1, fun k hk => ⟨(hx.1.2 k hk).2.1, ⟨(hx.1.2 k hk).2.2.1.1, fun j hj => ((hx.1.2 k hk).2.2.1.2 j hj).2.1⟩⟩⟩ ⟨hx.2.1.1, fun k hk => (hx.2.1.2 k hk).1⟩ ⟨hx.2.2.1.1, fun k hk => (hx.2.2.1.2 k hk).1⟩ hx.2.2.2.1.1) W args ds gs before hval hW'

theorem orderPlans_holds : Rows.OrderPlansSaid :=
  OpenClaim.holds_of_wide 6 Try.f6 rfl rfl rfl rfl rfl rfl rfl ⟨rfl, rfl, rfl, rfl, rfl⟩ rfl rfl rfl rfl rfl (by kernel_rfl) Try.func6 (by kernel_rfl)
    (of_decide_eq_true (by kernel_rfl)) (by unfold Func.isWrapper; rw [if_neg (by decide +kernel)]; exact ⟨rfl, rfl⟩)
    (fun os started H enc _ => orderPlans_lifted os started H enc)
end Go.Proofs.Ytemfikdogdadnaa
