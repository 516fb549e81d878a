/-
  Load shedding: the check of stages, the code's and the reference's.
-/
import Derived.Test.YtmhjkleknpdkgaaShdP
namespace Go.Proofs.Ytmhjkleknpdkgaa
open Go.RowKit

def shOk (s : Shs) : Prop := s.m ≤ maxLen ∧ ∀ k, k < s.m → s.nl k ≤ maxLen ∧ ∀ j, j < s.nl k → (s.ld k j).size ≤ maxLen
theorem shMap : mapOk Try.prog tab 55 := ⟨9, 4, e4, by kernel_rfl, by kernel_rfl, rfl, rfl⟩
def gamSh : Gam := fun f => match f with
  | 24 => some (s1S (fun a => a.size ≤ maxLen) nameB)
  | _ => gamN1 f
theorem gamSh_ok : GOk Try.prog gamSh := fun f g h => by
  unfold gamSh at h
  split at h
  · injection h with h; subst h; exact s1S_ok name1
  · exact gamN1_ok _ _ h
theorem shChk (s : Shs) (hs : shOk s) : Fn1 Try.prog 10 [.c (.sl 3 s.m (cShs s))] (intV (shE s)) := by
  refine fn_of_wpx (O := lex) tab_ok gamSh_ok mixed Try.func10 (by kernel_rfl) rfl rfl rfl (by simp [Try.ntmps10]) (by kernel_rfl) ?_
  have hm := hs.1
  conv => whnf
  repeat' (first
    | (refine NilG.mk fun bn hbn hbx => ?_; conv => whnf)
    | (refine Both.mk ?_ ?_ <;> conv => whnf)
    | exact trivial
    | (refine Br.mk (fun hb => ?_) (fun hb => ?_) <;> (first | (exfalso; revert hb; decide) | ((try simp only [BL] at hb) <;> (try simp only [DL] at hb) <;> conv => whnf)))
    | (refine And.intro ?_ ?_; (focus (first | exact id | exact rfl | exact trivial | (intro hg; first | exact hg | exact rfl | (simp; done) | (simp at hg ⊢; assumption)) | omega | decide | exact is2_c _ _ _ | exact is1_c _ _ | exact isS_c _ _ | exact isB_c _ _ | exact Nat.le_refl _ | assumption | exact mulLe (by decide) (by omega) | exact mulLe2 (by decide) (by omega) (by omega) | (intros; simp only [BL] at *; omega) | (intros; (try simp only [BL] at *); (try simp only [DL] at *); omega) | (intros; simp only [BL] at *; rw [wr_id (by omega) (by omega)]; omega) | (intro h1 h2; exact Bool.and_eq_true_iff.2 ⟨h1, h2⟩) | (intros; simp_all; done))); conv => whnf)
    | (refine Or.inr (And.intro rfl ?_); first | (refine congrArg intV ?_) | (refine congrArg boolV ?_) | (refine tupII ?_ ?_) | (refine tupIII ?_ ?_ ?_) | (refine tupU ?_ ?_ ?_ ?_ ?_) | exact rfl))
  · exact (if_pos (by omega)).symm
  refine sem_loop tab_ok gamSh_ok mixed (by kernel_rfl) (O := lex) (fun k : Nat => ⟨[(0, .c (.sl 3 s.m (cShs s))), (3, .own 0), (12, .c (.sl 3 s.m (cShs s))), (13, intV s.m), (14, intV k)], [.keys (allL s k)]⟩) (fun k => k ≤ s.m ∧ ∀ j, j < k → stE s j = 0) (fun k => s.m - k) ⟨0, [?_], ⟨Nat.zero_le _, fun j hj => absurd hj (Nat.not_lt_zero j)⟩, ?_⟩ fun k hk => ?_
  rotate_left 1
  · refine Sub.of ?_ ?_ ?_
    repeat' (first | (refine And.intro ?_ ?_) | exact trivial | exact fun _ _ _ => hsc _ _ | (exact congrArg intV (by first | with_reducible rfl | with_reducible assumption)) | exact (rfl : AV.idsLt _ _ = true) | exact (rfl : _ = AV.ren _ (.own _)) | exact (rfl : _ = AV.ren _ (.fn _ _)) | exact (rfl : _ = AV.ren _ (.gh _)) | (exact congrArg intV (by assumption)) | (refine congrArg intV ((wr_id (by omega) (by omega)).trans (by omega))) | exact rfl | (simp only [Int.toNat_natCast, Int.toNat_zero, Nat.sub_zero, Nat.zero_add]; first | exact rfl | done) | exact all0 | exact fun h => Bool.noConfusion h | exact fun _ _ _ _ => rfl | omega)
  conv => whnf
  repeat' (first
    | (refine NilG.mk fun bn hbn hbx => ?_; conv => whnf)
    | (refine Both.mk ?_ ?_ <;> conv => whnf)
    | exact trivial
    | (refine Br.mk (fun hb => ?_) (fun hb => ?_) <;> (first | (exfalso; revert hb; decide) | ((try simp only [BL] at hb) <;> (try simp only [DL] at hb) <;> (first | (exfalso; omega) | (conv => whnf)))))
    | (refine And.intro ?_ ?_; (focus (first | exact id | exact rfl | exact trivial | (intro hg; first | exact hg | exact rfl | (simp; done) | (simp at hg ⊢; assumption)) | omega | decide | exact is2_c _ _ _ | exact is1_c _ _ | exact isS_c _ _ | exact isB_c _ _ | exact Nat.le_refl _ | assumption | exact mulLe (by decide) (by omega) | exact mulLe2 (by decide) (by omega) (by omega) | (intros; simp only [BL] at *; omega) | (intros; (try simp only [BL] at *); (try simp only [DL] at *); omega) | (intros; simp only [BL] at *; rw [wr_id (by omega) (by omega)]; omega) | (intro h1 h2; exact Bool.and_eq_true_iff.2 ⟨h1, h2⟩) | first | exact ⟨rfl, by omega, by decide⟩ | (intros; simp_all; done))); conv => whnf)
    | (refine Or.inr (And.intro rfl ?_); first | (refine congrArg intV ?_) | (refine congrArg boolV ?_) | (refine tupII ?_ ?_) | (refine tupIII ?_ ?_ ?_) | (refine tupU ?_ ?_ ?_ ?_ ?_) | exact rfl))
  · exact shE_at (by omega) hk.2 (by omega) (stE_rg fun h => by unfold rgB at h; omega) (by decide)
  · have ek : (IntKind.i64.wrap ((k : Int) - 1)).toNat = k - 1 := by rw [wr_id (by omega) (by omega)]; omega
    rw [ek] at hb
    rename_i h1
    exact shE_at (by omega) hk.2 (by omega) (stE_fm (by unfold rgB; omega) (by omega)) (by decide)
  · rename_i h2 h1
    have hrg : rgB s k := by unfold rgB; omega
    have hfm : ¬ (0 < k ∧ s.be k ≥ s.be (k - 1)) := fun h => by
      have ek : (IntKind.i64.wrap ((k : Int) - 1)).toNat = k - 1 := by rw [wr_id (by omega) (by omega)]; omega
      rw [ek] at h1; omega
    exact shE_at (by omega) hk.2 (by omega) (stE_lg hrg hfm (by omega)) (by decide)
  · rename_i h2 h1
    have hrg : rgB s k := by unfold rgB; omega
    have hfm : ¬ (0 < k ∧ s.be k ≥ s.be (k - 1)) := fun h => by
      have ek : (IntKind.i64.wrap ((k : Int) - 1)).toNat = k - 1 := by rw [wr_id (by omega) (by omega)]; omega
      rw [ek] at h1; omega
    have hkm : k < s.m := by omega
    have hnm := (hs.2 k hkm).2
    have h12 : ¬ 12 < s.nl k := by omega
    clear hb
    refine sem_loop tab_ok gamSh_ok mixed (by kernel_rfl) (O := lex) (fun i : Nat => ⟨[(0, .c (.sl 3 s.m (cShs s))), (3, .own 0), (12, .c (.sl 3 s.m (cShs s))), (13, intV s.m), (14, intV k), (58, .c (.sl 1 (s.nl k) (cS (s.ld k)))), (59, intV (s.nl k)), (60, intV i)], [.keys (allL s k ++ ldL s k i)]⟩) (fun i => i ≤ s.nl k ∧ ∀ j, j < i → ldE s k j = 0) (fun i => s.nl k - i) ⟨0, [?_], ⟨Nat.zero_le _, fun j hj => absurd hj (Nat.not_lt_zero j)⟩, ?_⟩ fun i hi => ?_
    rotate_left 1
    · refine Sub.of ?_ ?_ ?_
      repeat' (first | (refine And.intro ?_ ?_) | exact trivial | exact fun _ _ _ => hsc _ _ | (exact congrArg intV (by first | with_reducible rfl | with_reducible assumption)) | exact (rfl : AV.idsLt _ _ = true) | exact (rfl : _ = AV.ren _ (.own _)) | exact (rfl : _ = AV.ren _ (.fn _ _)) | exact (rfl : _ = AV.ren _ (.gh _)) | (exact congrArg intV (by assumption)) | (refine congrArg intV ((wr_id (by omega) (by omega)).trans (by omega))) | exact rfl | (simp only [Int.toNat_natCast, Int.toNat_zero, Nat.sub_zero, Nat.zero_add]; first | exact rfl | done) | exact all0 | exact fun h => Bool.noConfusion h | exact fun _ _ _ _ => rfl | omega)
      · exact (by simp [ldL] : allL s k = allL s k ++ ldL s k 0)
    conv => whnf
    repeat' (first
      | (refine NilG.mk fun bn hbn hbx => ?_; conv => whnf)
      | (refine Both.mk ?_ ?_ <;> conv => whnf)
      | exact trivial
      | (refine Br.mk (fun hb => ?_) (fun hb => ?_) <;> (first | (exfalso; revert hb; decide) | ((try simp only [BL] at hb) <;> (try simp only [DL] at hb) <;> (first | (exfalso; omega) | (conv => whnf)))))
      | (refine And.intro ?_ ?_; (focus (first | exact id | exact rfl | exact trivial | (intro hg; first | exact hg | exact rfl | (simp; done) | (simp at hg ⊢; assumption)) | omega | decide | exact is2_c _ _ _ | exact is1_c _ _ | exact isS_c _ _ | exact isB_c _ _ | exact Nat.le_refl _ | assumption | exact mulLe (by decide) (by omega) | exact mulLe2 (by decide) (by omega) (by omega) | (intros; simp only [BL] at *; omega) | (intros; (try simp only [BL] at *); (try simp only [DL] at *); omega) | (intros; simp only [BL] at *; rw [wr_id (by omega) (by omega)]; omega) | (intro h1 h2; exact Bool.and_eq_true_iff.2 ⟨h1, h2⟩) | first | exact ⟨rfl, by omega, by decide⟩ | exact hnm _ (by omega) | (intros; simp_all; done))); conv => whnf)
      | (refine Or.inr (And.intro rfl ?_); first | (refine congrArg intV ?_) | (refine congrArg boolV ?_) | (refine tupII ?_ ?_) | (refine tupIII ?_ ?_ ?_) | (refine tupU ?_ ?_ ?_ ?_ ?_) | exact rfl))
    · exact shE_ld (by omega) hk.2 hkm hrg hfm h12 hi.2 (by omega) (if_neg (by rw [hb]; decide)) (by decide)
    · rename_i hi9
      refine And.intro shMap ?_
      conv => whnf
      repeat' (first
        | (refine NilG.mk fun bn hbn hbx => ?_; conv => whnf)
        | (refine Both.mk ?_ ?_ <;> conv => whnf)
        | exact trivial
        | (refine Br.mk (fun hb => ?_) (fun hb => ?_) <;> (first | (exfalso; revert hb; decide) | ((try simp only [BL] at hb) <;> (try simp only [DL] at hb) <;> (first | (exfalso; omega) | (conv => whnf)))))
        | (refine And.intro ?_ ?_; (focus (first | exact id | exact rfl | exact trivial | (intro hg; first | exact hg | exact rfl | (simp; done) | (simp at hg ⊢; assumption)) | omega | decide | exact is2_c _ _ _ | exact is1_c _ _ | exact isS_c _ _ | exact isB_c _ _ | exact Nat.le_refl _ | assumption | exact mulLe (by decide) (by omega) | exact mulLe2 (by decide) (by omega) (by omega) | (intros; simp only [BL] at *; omega) | (intros; (try simp only [BL] at *); (try simp only [DL] at *); omega) | (intros; simp only [BL] at *; rw [wr_id (by omega) (by omega)]; omega) | (intro h1 h2; exact Bool.and_eq_true_iff.2 ⟨h1, h2⟩) | (intros; simp_all; done))); conv => whnf)
        | (refine Or.inr (And.intro rfl ?_); first | (refine congrArg intV ?_) | (refine congrArg boolV ?_) | (refine tupII ?_ ?_) | (refine tupIII ?_ ?_ ?_) | (refine tupU ?_ ?_ ?_ ?_ ?_) | exact rfl))
      · exact shE_ld (by omega) hk.2 hkm hrg hfm h12 hi.2 (by omega) ((if_pos (by assumption)).trans (if_pos hb)) (by decide)
      · refine And.intro ⟨shMap, hb⟩ ?_
        conv => whnf
        repeat' (first
          | (refine NilG.mk fun bn hbn hbx => ?_; conv => whnf)
          | (refine Both.mk ?_ ?_ <;> conv => whnf)
          | exact trivial
          | (refine Br.mk (fun hb => ?_) (fun hb => ?_) <;> (first | (exfalso; revert hb; decide) | ((try simp only [BL] at hb) <;> (try simp only [DL] at hb) <;> (first | (exfalso; omega) | (conv => whnf)))))
          | (refine And.intro ?_ ?_; (focus (first | exact id | exact rfl | exact trivial | (intro hg; first | exact hg | exact rfl | (simp; done) | (simp at hg ⊢; assumption)) | omega | decide | exact is2_c _ _ _ | exact is1_c _ _ | exact isS_c _ _ | exact isB_c _ _ | exact Nat.le_refl _ | assumption | exact mulLe (by decide) (by omega) | exact mulLe2 (by decide) (by omega) (by omega) | (intros; simp only [BL] at *; omega) | (intros; (try simp only [BL] at *); (try simp only [DL] at *); omega) | (intros; simp only [BL] at *; rw [wr_id (by omega) (by omega)]; omega) | (intro h1 h2; exact Bool.and_eq_true_iff.2 ⟨h1, h2⟩) | (intros; simp_all; done))); conv => whnf)
          | (refine Or.inr (And.intro rfl ?_); first | (refine congrArg intV ?_) | (refine congrArg boolV ?_) | (refine tupII ?_ ?_) | (refine tupIII ?_ ?_ ?_) | (refine tupU ?_ ?_ ?_ ?_ ?_) | exact rfl))
        have e60 : IntKind.i64.wrap ((i : Int) + 1) = ((i + 1 : Nat) : Int) := (wr_id (by omega) (by omega)).trans (by omega)
        refine ⟨i + 1, [?_], ⟨by omega, fun j hj => by
                rcases Nat.lt_succ_iff_lt_or_eq.1 hj with h | rfl
                · exact hi.2 j h
                · exact (if_pos (by assumption)).trans (if_neg (by rw [show twB s k j = _ from hb]; decide))⟩, by omega, ?_⟩
        rotate_left 1
        refine Sub.of ?_ ?_ ?_
        repeat' (first | (refine And.intro ?_ ?_) | exact trivial | exact fun _ _ _ => hsc _ _ | (exact congrArg intV (by first | with_reducible rfl | with_reducible assumption)) | exact (rfl : AV.idsLt _ _ = true) | exact (rfl : _ = AV.ren _ (.own _)) | exact (rfl : _ = AV.ren _ (.fn _ _)) | exact (rfl : _ = AV.ren _ (.gh _)) | (exact congrArg intV (by assumption)) | (refine congrArg intV ((wr_id (by omega) (by omega)).trans (by omega))) | exact rfl | (simp only [Int.toNat_natCast, Int.toNat_zero, Nat.sub_zero, Nat.zero_add]; first | exact rfl | done) | exact all0 | exact fun h => Bool.noConfusion h | exact fun _ _ _ _ => rfl | omega)
        exact (by rw [ldL_succ, List.append_assoc] : (allL s k ++ ldL s k i) ++ [s.ld k i] = allL s k ++ ldL s k (i + 1))
    · obtain rfl : i = s.nl k := by omega
      have e14 : IntKind.i64.wrap ((k : Int) + 1) = ((k + 1 : Nat) : Int) := (wr_id (by omega) (by omega)).trans (by omega)
      refine ⟨k + 1, [?_], ⟨by omega, fun j hj => by
            rcases Nat.lt_succ_iff_lt_or_eq.1 hj with h | rfl
            · exact hk.2 j h
            · exact (stE_ld hrg hfm h12).trans (fst_of hi.2)⟩, by omega, ?_⟩
      rotate_left 1
      refine Sub.of ?_ ?_ ?_
      repeat' (first | (refine And.intro ?_ ?_) | exact trivial | exact fun _ _ _ => hsc _ _ | (exact congrArg intV (by first | with_reducible rfl | with_reducible assumption)) | exact (rfl : AV.idsLt _ _ = true) | exact (rfl : _ = AV.ren _ (.own _)) | exact (rfl : _ = AV.ren _ (.fn _ _)) | exact (rfl : _ = AV.ren _ (.gh _)) | (exact congrArg intV (by assumption)) | (refine congrArg intV ((wr_id (by omega) (by omega)).trans (by omega))) | exact rfl | (simp only [Int.toNat_natCast, Int.toNat_zero, Nat.sub_zero, Nat.zero_add]; first | exact rfl | done) | exact all0 | exact fun h => Bool.noConfusion h | exact fun _ _ _ _ => rfl | omega)
  · obtain rfl : k = s.m := by omega
    exact ((if_neg (by omega)).trans (fst_of hk.2)).symm
theorem same_iff {s : Nat → ByteArray} {nm : ByteArray} {k : Nat} : sameN s nm k = true ↔ s k = nm := by
  unfold sameN
  rw [beq_iff_eq, ByteArray.toList_eq, ByteArray.toList_eq]
  constructor
  · intro h; exact ByteArray.ext (Array.toList_inj.1 h)
  · intro h; rw [h]
theorem same_ff {s : Nat → ByteArray} {nm : ByteArray} {k : Nat} : sameN s nm k = false ↔ ¬ s k = nm := by
  rw [← same_iff, Bool.not_eq_true]
theorem idx_iff {p : Nat → ByteArray} {n : Nat} {x : ByteArray} : decide (fidx (sameN p x) n ≥ 0) = true ↔ ∃ j, j < n ∧ p j = x := by
  rw [decide_eq_true_eq]
  constructor
  · intro h
    refine Decidable.byContradiction fun hn => ?_
    rw [fidx_none fun k hk => same_ff.2 fun e => hn ⟨k, hk, e⟩] at h
    exact absurd h (by decide)
  · rintro ⟨j, h1, h2⟩
    refine Decidable.byContradiction fun hn => ?_
    have := fidx_neg hn j h1
    rw [same_iff.2 h2] at this
    cases this
theorem shIdx (n : Nat) (p : Nat → ByteArray) (x : ByteArray) (hn : n ≤ maxLen) : Fn1 Try.prog 23 [.c (.sl 1 n (cS p)), strV x] (intV (fidx (sameN p x) n)) := by
  refine fn_of_wpx (O := lex) tab_ok gamN1_ok mixed Try.func23 (by kernel_rfl) rfl rfl rfl (by simp [Try.ntmps23]) (by kernel_rfl) ?_
  have hn' : n ≤ 9223372036854775807 := hn
  conv => whnf
  repeat' (first
    | (refine NilG.mk fun bn hbn hbx => ?_; conv => whnf)
    | (refine Both.mk ?_ ?_ <;> conv => whnf)
    | exact trivial
    | (refine Br.mk (fun hb => ?_) (fun hb => ?_) <;> (first | (exfalso; revert hb; decide) | ((try simp only [BL] at hb) <;> (try simp only [DL] at hb) <;> conv => whnf)))
    | (refine And.intro ?_ ?_; (focus (first | exact id | exact rfl | exact trivial | (intro hg; first | exact hg | exact rfl | (simp; done) | (simp at hg ⊢; assumption)) | omega | decide | exact is2_c _ _ _ | exact is1_c _ _ | exact isS_c _ _ | exact isB_c _ _ | exact Nat.le_refl _ | assumption | exact mulLe (by decide) (by omega) | exact mulLe2 (by decide) (by omega) (by omega) | (intros; simp only [BL] at *; omega) | (intros; (try simp only [BL] at *); (try simp only [DL] at *); omega) | (intros; simp only [BL] at *; rw [wr_id (by omega) (by omega)]; omega) | (intro h1 h2; exact Bool.and_eq_true_iff.2 ⟨h1, h2⟩) | (intros; simp_all; done))); conv => whnf)
    | (refine Or.inr (And.intro rfl ?_); first | (refine congrArg intV ?_) | (refine congrArg boolV ?_) | (refine tupII ?_ ?_) | (refine tupIII ?_ ?_ ?_) | (refine tupU ?_ ?_ ?_ ?_ ?_) | exact rfl))
  refine sem_loop tab_ok gamN1_ok mixed (by kernel_rfl) (O := lex) (fun i : Nat => ⟨[(1, strV x), (7, .c (.sl 1 n (cS p))), (8, intV n), (9, intV i)], []⟩) (fun i => i ≤ n ∧ ∀ k, k < i → sameN p x k = false) (fun i => n - i) ⟨0, [], ⟨Nat.zero_le _, fun k hk => absurd hk (Nat.not_lt_zero _)⟩, ?_⟩ fun i hi => ?_
  · refine Sub.of ?_ ?_ ?_
    repeat' (first | (refine And.intro ?_ ?_) | exact trivial | exact fun _ _ _ => hsc _ _ | (exact congrArg intV (by first | with_reducible rfl | with_reducible assumption)) | exact (rfl : AV.idsLt _ _ = true) | exact (rfl : _ = AV.ren _ (.own _)) | exact (rfl : _ = AV.ren _ (.fn _ _)) | exact (rfl : _ = AV.ren _ (.gh _)) | (exact congrArg intV (by assumption)) | (refine congrArg intV ((wr_id (by omega) (by omega)).trans (by omega))) | exact rfl | (simp only [Int.toNat_natCast, Int.toNat_zero, Nat.sub_zero, Nat.zero_add]; first | exact rfl | done) | exact all0 | exact fun h => Bool.noConfusion h | exact fun _ _ _ _ => rfl | omega)
  conv => whnf
  repeat' (first
    | (refine NilG.mk fun bn hbn hbx => ?_; conv => whnf)
    | (refine Both.mk ?_ ?_ <;> conv => whnf)
    | exact trivial
    | (refine Br.mk (fun hb => ?_) (fun hb => ?_) <;> (first | (exfalso; revert hb; decide) | ((try simp only [BL] at hb) <;> (try simp only [DL] at hb) <;> (first | (exfalso; omega) | (conv => whnf)))))
    | (refine And.intro ?_ ?_; (focus (first | exact id | exact rfl | exact trivial | (intro hg; first | exact hg | exact rfl | (simp; done) | (simp at hg ⊢; assumption)) | omega | decide | exact is2_c _ _ _ | exact is1_c _ _ | exact isS_c _ _ | exact isB_c _ _ | exact Nat.le_refl _ | assumption | exact mulLe (by decide) (by omega) | exact mulLe2 (by decide) (by omega) (by omega) | (intros; simp only [BL] at *; omega) | (intros; (try simp only [BL] at *); (try simp only [DL] at *); omega) | (intros; simp only [BL] at *; rw [wr_id (by omega) (by omega)]; omega) | (intro h1 h2; exact Bool.and_eq_true_iff.2 ⟨h1, h2⟩) | (intros; simp_all; done))); conv => whnf)
    | (refine Or.inr (And.intro rfl ?_); first | (refine congrArg intV ?_) | (refine congrArg boolV ?_) | (refine tupII ?_ ?_) | (refine tupIII ?_ ?_ ?_) | (refine tupU ?_ ?_ ?_ ?_ ?_) | exact rfl))
  · exact (fidx_at hi.2 hb (by omega)).symm
  · have h1 : sameN p x i = false := hb
    refine ⟨i + 1, [], ⟨by omega, fun k hk => by rcases Nat.lt_succ_iff_lt_or_eq.1 hk with h | rfl <;> first | exact hi.2 k h | exact h1⟩, by omega, ?_⟩
    refine Sub.of ?_ ?_ ?_
    repeat' (first | (refine And.intro ?_ ?_) | exact trivial | exact fun _ _ _ => hsc _ _ | (exact congrArg intV (by first | with_reducible rfl | with_reducible assumption)) | exact (rfl : AV.idsLt _ _ = true) | exact (rfl : _ = AV.ren _ (.own _)) | exact (rfl : _ = AV.ren _ (.fn _ _)) | exact (rfl : _ = AV.ren _ (.gh _)) | (exact congrArg intV (by assumption)) | (refine congrArg intV ((wr_id (by omega) (by omega)).trans (by omega))) | exact rfl | (simp only [Int.toNat_natCast, Int.toNat_zero, Nat.sub_zero, Nat.zero_add]; first | exact rfl | done) | exact all0 | exact fun h => Bool.noConfusion h | exact fun _ _ _ _ => rfl | omega)
  · obtain rfl : i = n := by omega
    exact (fidx_none hi.2).symm
def sIdx : List AV → Sd × AV
  | [.c (.sl 1 n f), .c (.v (.string x))] => (.p (isS n f ∧ n ≤ maxLen), intV (fidx (sameN (dS f) x) n))
  | _ => (.p False, .top)
def gamSe : Gam := fun f => match f with
  | 11 => some (s3 inB)
  | 22 => some (s1S (fun a => a.size ≤ maxLen) nameB)
  | 23 => some sIdx
  | _ => gamN1 f
theorem gamSe_ok : GOk Try.prog gamSe := fun f g h => by
  unfold gamSe at h
  split at h
  · injection h with h; subst h; exact s3_ok in4
  · injection h with h; subst h; exact s1S_ok named4
  · injection h with h; subst h
    intro args hs _
    unfold sIdx at hs ⊢
    split at hs
    · exact (shIdx _ _ _ hs.2).le (Le.cons (Le1.sl hs.1) (Le.cons (Le1.refl _) Le.nil))
    · exact hs.elim
  · exact gamN1_ok _ _ h
/-- whether a name was there, in the loads below i and the stages below t -/
def twP (s : Shs) (k i t : Nat) : Prop := (∃ j, j < i ∧ s.ld k j = s.ld k i) ∨ ∃ t', t' < t ∧ ∃ j, j < s.nl t' ∧ s.ld t' j = s.ld k i
theorem tw_iff {s : Shs} {k i : Nat} : twB s k i = true ↔ twP s k i k := by
  unfold twB twP
  rw [inK_iff, List.mem_append, allL_mem, ldL_mem]
  constructor
  · rintro (⟨t, h1, h2⟩ | h)
    · exact .inr ⟨t, h1, ldL_mem.1 h2⟩
    · exact .inl h
  · rintro (h | ⟨t, h1, h2⟩)
    · exact .inr h
    · exact .inl ⟨t, h1, ldL_mem.2 h2⟩
theorem tw_zero {s : Shs} {k i : Nat} : decide (fidx (sameN (fun q => s.ld k (0 + q)) (s.ld k i)) i ≥ 0) = true ↔ twP s k i 0 := by
  rw [idx_iff]
  unfold twP
  constructor
  · rintro ⟨j, h1, h2⟩; exact .inl ⟨j, h1, by rw [← h2, Nat.zero_add]⟩
  · rintro (⟨j, h1, h2⟩ | ⟨t, h, -⟩)
    · exact ⟨j, h1, by rw [Nat.zero_add]; exact h2⟩
    · exact absurd h (Nat.not_lt_zero t)
theorem tw_succ {s : Shs} {k i t : Nat} {b : Bool} (h : b = true ↔ twP s k i t) : (b || decide (fidx (sameN (s.ld t) (s.ld k i)) (s.nl t) ≥ 0)) = true ↔ twP s k i (t + 1) := by
  rw [Bool.or_eq_true, h, idx_iff]
  unfold twP
  constructor
  · rintro ((h | ⟨t', h1, h2⟩) | h)
    · exact .inl h
    · exact .inr ⟨t', by omega, h2⟩
    · exact .inr ⟨t, by omega, h⟩
  · rintro (h | ⟨t', h1, h2⟩)
    · exact .inl (.inl h)
    · by_cases e : t' = t
      · subst e; exact .inr h2
      · exact .inl (.inr ⟨t', by omega, h2⟩)
theorem shErr (s : Shs) (hs : shOk s) : Fn1 Try.prog 9 [.c (.sl 3 s.m (cShs s))] (intV (shE s)) := by
  refine fn_of_wpx (O := lex) tab_ok gamSe_ok mixed Try.func9 (by kernel_rfl) rfl rfl rfl (by simp [Try.ntmps9]) (by kernel_rfl) ?_
  have hm := hs.1
  conv => whnf
  repeat' (first
    | (refine NilG.mk fun bn hbn hbx => ?_; conv => whnf)
    | (refine Both.mk ?_ ?_ <;> conv => whnf)
    | exact trivial
    | (refine Br.mk (fun hb => ?_) (fun hb => ?_) <;> (first | (exfalso; revert hb; decide) | ((try simp only [BL] at hb) <;> (try simp only [DL] at hb) <;> conv => whnf)))
    | (refine And.intro ?_ ?_; (focus (first | exact id | exact rfl | exact trivial | (intro hg; first | exact hg | exact rfl | (simp; done) | (simp at hg ⊢; assumption)) | omega | decide | exact is2_c _ _ _ | exact is1_c _ _ | exact isS_c _ _ | exact isB_c _ _ | exact Nat.le_refl _ | assumption | exact mulLe (by decide) (by omega) | exact mulLe2 (by decide) (by omega) (by omega) | (intros; simp only [BL] at *; omega) | (intros; (try simp only [BL] at *); (try simp only [DL] at *); omega) | (intros; simp only [BL] at *; rw [wr_id (by omega) (by omega)]; omega) | (intro h1 h2; exact Bool.and_eq_true_iff.2 ⟨h1, h2⟩) | (intros; simp_all; done))); conv => whnf)
    | (refine Or.inr (And.intro rfl ?_); first | (refine congrArg intV ?_) | (refine congrArg boolV ?_) | (refine tupII ?_ ?_) | (refine tupIII ?_ ?_ ?_) | (refine tupU ?_ ?_ ?_ ?_ ?_) | exact rfl))
  · exact (if_pos (by omega)).symm
  refine sem_loop tab_ok gamSe_ok mixed (by kernel_rfl) (O := lex) (fun k : Nat => ⟨[(0, .c (.sl 3 s.m (cShs s))), (13, .c (.sl 3 s.m (cShs s))), (14, intV s.m), (15, intV k)], []⟩) (fun k => k ≤ s.m ∧ ∀ j, j < k → stE s j = 0) (fun k => s.m - k) ⟨0, [], ⟨Nat.zero_le _, fun j hj => absurd hj (Nat.not_lt_zero j)⟩, ?_⟩ fun k hk => ?_
  · refine Sub.of ?_ ?_ ?_
    repeat' (first | (refine And.intro ?_ ?_) | exact trivial | exact fun _ _ _ => hsc _ _ | (exact congrArg intV (by first | with_reducible rfl | with_reducible assumption)) | exact (rfl : AV.idsLt _ _ = true) | exact (rfl : _ = AV.ren _ (.own _)) | exact (rfl : _ = AV.ren _ (.fn _ _)) | exact (rfl : _ = AV.ren _ (.gh _)) | (exact congrArg intV (by assumption)) | (refine congrArg intV ((wr_id (by omega) (by omega)).trans (by omega))) | exact rfl | (simp only [Int.toNat_natCast, Int.toNat_zero, Nat.sub_zero, Nat.zero_add]; first | exact rfl | done) | exact all0 | exact fun h => Bool.noConfusion h | exact fun _ _ _ _ => rfl | omega)
  conv => whnf
  repeat' (first
    | (refine NilG.mk fun bn hbn hbx => ?_; conv => whnf)
    | (refine Both.mk ?_ ?_ <;> conv => whnf)
    | exact trivial
    | (refine Br.mk (fun hb => ?_) (fun hb => ?_) <;> (first | (exfalso; revert hb; decide) | ((try simp only [BL] at hb) <;> (try simp only [DL] at hb) <;> (first | (exfalso; omega) | (conv => whnf)))))
    | (refine And.intro ?_ ?_; (focus (first | exact id | exact rfl | exact trivial | (intro hg; first | exact hg | exact rfl | (simp; done) | (simp at hg ⊢; assumption)) | omega | decide | exact is2_c _ _ _ | exact is1_c _ _ | exact isS_c _ _ | exact isB_c _ _ | exact Nat.le_refl _ | assumption | exact mulLe (by decide) (by omega) | exact mulLe2 (by decide) (by omega) (by omega) | (intros; simp only [BL] at *; omega) | (intros; (try simp only [BL] at *); (try simp only [DL] at *); omega) | (intros; simp only [BL] at *; rw [wr_id (by omega) (by omega)]; omega) | (intro h1 h2; exact Bool.and_eq_true_iff.2 ⟨h1, h2⟩) | first | exact ⟨rfl, by omega, by decide⟩ | (intros; simp_all; done))); conv => whnf)
    | (refine Or.inr (And.intro rfl ?_); first | (refine congrArg intV ?_) | (refine congrArg boolV ?_) | (refine tupII ?_ ?_) | (refine tupIII ?_ ?_ ?_) | (refine tupU ?_ ?_ ?_ ?_ ?_) | exact rfl))
  · exact shE_at (by omega) hk.2 (by omega) (stE_rg fun h => by unfold rgB at h; omega) (by decide)
  · have ek : (IntKind.i64.wrap ((k : Int) - 1)).toNat = k - 1 := by rw [wr_id (by omega) (by omega)]; omega
    rw [ek] at hb
    rename_i h1
    exact shE_at (by omega) hk.2 (by omega) (stE_fm (by unfold rgB; omega) (by omega)) (by decide)
  · rename_i h2 h1
    have hrg : rgB s k := by unfold rgB; omega
    have hfm : ¬ (0 < k ∧ s.be k ≥ s.be (k - 1)) := fun h => by
      have ek : (IntKind.i64.wrap ((k : Int) - 1)).toNat = k - 1 := by rw [wr_id (by omega) (by omega)]; omega
      rw [ek] at h1; omega
    exact shE_at (by omega) hk.2 (by omega) (stE_lg hrg hfm (by omega)) (by decide)
  · rename_i h2 h1
    have hrg : rgB s k := by unfold rgB; omega
    have hfm : ¬ (0 < k ∧ s.be k ≥ s.be (k - 1)) := fun h => by
      have ek : (IntKind.i64.wrap ((k : Int) - 1)).toNat = k - 1 := by rw [wr_id (by omega) (by omega)]; omega
      rw [ek] at h1; omega
    have hkm : k < s.m := by omega
    have hnm := (hs.2 k hkm).2
    have hnk := (hs.2 k hkm).1
    have hnt := fun t (h : t < s.m) => (hs.2 t h).1
    have h12 : ¬ 12 < s.nl k := by omega
    clear hb
    refine sem_loop tab_ok gamSe_ok mixed (by kernel_rfl) (O := lex) (fun i : Nat => ⟨[(0, .c (.sl 3 s.m (cShs s))), (3, intV k), (4, .lp 0 0), (13, .c (.sl 3 s.m (cShs s))), (14, intV s.m), (15, intV k), (48, .c (.sl 1 (s.nl k) (cS (s.ld k)))), (49, intV (s.nl k)), (50, intV i)], [.box [intV (s.be k), intV (s.wa k), .c (.sl 1 (s.nl k) (cS (s.ld k)))]]⟩) (fun i => i ≤ s.nl k ∧ ∀ j, j < i → ldE s k j = 0) (fun i => s.nl k - i) ⟨0, [?_], ⟨Nat.zero_le _, fun j hj => absurd hj (Nat.not_lt_zero j)⟩, ?_⟩ fun i hi => ?_
    rotate_left 1
    · refine Sub.of ?_ ?_ ?_
      repeat' (first | (refine And.intro ?_ ?_) | exact trivial | exact fun _ _ _ => hsc _ _ | (exact congrArg intV (by first | with_reducible rfl | with_reducible assumption)) | exact (rfl : AV.idsLt _ _ = true) | exact (rfl : _ = AV.ren _ (.own _)) | exact (rfl : _ = AV.ren _ (.fn _ _)) | exact (rfl : _ = AV.ren _ (.gh _)) | (exact congrArg intV (by assumption)) | (refine congrArg intV ((wr_id (by omega) (by omega)).trans (by omega))) | exact rfl | (simp only [Int.toNat_natCast, Int.toNat_zero, Nat.sub_zero, Nat.zero_add]; first | exact rfl | done) | exact all0 | exact fun h => Bool.noConfusion h | exact fun _ _ _ _ => rfl | omega)
    conv => whnf
    repeat' (first
      | (refine NilG.mk fun bn hbn hbx => ?_; conv => whnf)
      | (refine Both.mk ?_ ?_ <;> conv => whnf)
      | exact trivial
      | (refine Br.mk (fun hb => ?_) (fun hb => ?_) <;> (first | (exfalso; revert hb; decide) | ((try simp only [BL] at hb) <;> (try simp only [DL] at hb) <;> (first | (exfalso; omega) | (conv => whnf)))))
      | (refine And.intro ?_ ?_; (focus (first | exact id | exact rfl | exact trivial | (intro hg; first | exact hg | exact rfl | (simp; done) | (simp at hg ⊢; assumption)) | omega | decide | exact is2_c _ _ _ | exact is1_c _ _ | exact isS_c _ _ | exact isB_c _ _ | exact Nat.le_refl _ | assumption | exact mulLe (by decide) (by omega) | exact mulLe2 (by decide) (by omega) (by omega) | (intros; simp only [BL] at *; omega) | (intros; (try simp only [BL] at *); (try simp only [DL] at *); omega) | (intros; simp only [BL] at *; rw [wr_id (by omega) (by omega)]; omega) | (intro h1 h2; exact Bool.and_eq_true_iff.2 ⟨h1, h2⟩) | first | exact ⟨rfl, by omega, by decide⟩ | exact hnm _ (by omega) | exact ⟨isS_c _ _, by omega⟩ | (intros; simp_all; done))); conv => whnf)
      | (refine Or.inr (And.intro rfl ?_); first | (refine congrArg intV ?_) | (refine congrArg boolV ?_) | (refine tupII ?_ ?_) | (refine tupIII ?_ ?_ ?_) | (refine tupU ?_ ?_ ?_ ?_ ?_) | exact rfl))
    · exact shE_ld (by omega) hk.2 hkm hrg hfm h12 hi.2 (by omega) (if_neg (by rw [hb]; decide)) (by decide)
    · refine sem_loop tab_ok gamSe_ok mixed (by kernel_rfl) (O := lex) (fun x : Nat × Bool => ⟨[(0, .c (.sl 3 s.m (cShs s))), (3, intV k), (4, .lp 0 0), (6, strV (s.ld k i)), (7, boolV x.2), (13, .c (.sl 3 s.m (cShs s))), (14, intV s.m), (15, intV k), (48, .c (.sl 1 (s.nl k) (cS (s.ld k)))), (49, intV (s.nl k)), (50, intV i), (67, .c (.sl 3 k (cShs s))), (68, intV k), (69, intV x.1)], [.box [intV (s.be k), intV (s.wa k), .c (.sl 1 (s.nl k) (cS (s.ld k)))]]⟩) (fun x => x.1 ≤ k ∧ (x.2 = true ↔ twP s k i x.1)) (fun x => k - x.1) ⟨(0, decide (fidx (sameN (fun q => s.ld k (0 + q)) (s.ld k i)) i ≥ 0)), [?_], ⟨Nat.zero_le _, tw_zero⟩, ?_⟩ fun y hy => ?_
      rotate_left 1
      · refine Sub.of ?_ ?_ ?_
        repeat' (first | (refine And.intro ?_ ?_) | exact trivial | exact fun _ _ _ => hsc _ _ | (exact congrArg intV (by first | with_reducible rfl | with_reducible assumption)) | exact (rfl : AV.idsLt _ _ = true) | exact (rfl : _ = AV.ren _ (.own _)) | exact (rfl : _ = AV.ren _ (.fn _ _)) | exact (rfl : _ = AV.ren _ (.gh _)) | (exact congrArg intV (by assumption)) | (refine congrArg intV ((wr_id (by omega) (by omega)).trans (by omega))) | exact rfl | (simp only [Int.toNat_natCast, Int.toNat_zero, Nat.sub_zero, Nat.zero_add]; first | exact rfl | done) | exact all0 | exact fun h => Bool.noConfusion h | exact fun _ _ _ _ => rfl | omega)
      obtain ⟨t, b⟩ := y
      obtain ⟨ht, hb2⟩ := hy
      dsimp only at ht hb2 ⊢
      conv => whnf
      repeat' (first
        | (refine NilG.mk fun bn hbn hbx => ?_; conv => whnf)
        | (refine Both.mk ?_ ?_ <;> conv => whnf)
        | exact trivial
        | (refine Br.mk (fun hb => ?_) (fun hb => ?_) <;> (first | (exfalso; revert hb; decide) | ((try simp only [BL] at hb) <;> (try simp only [DL] at hb) <;> (first | (exfalso; omega) | (conv => whnf)))))
        | (refine And.intro ?_ ?_; (focus (first | exact id | exact rfl | exact trivial | (intro hg; first | exact hg | exact rfl | (simp; done) | (simp at hg ⊢; assumption)) | omega | decide | exact is2_c _ _ _ | exact is1_c _ _ | exact isS_c _ _ | exact isB_c _ _ | exact Nat.le_refl _ | assumption | exact mulLe (by decide) (by omega) | exact mulLe2 (by decide) (by omega) (by omega) | (intros; simp only [BL] at *; omega) | (intros; (try simp only [BL] at *); (try simp only [DL] at *); omega) | (intros; simp only [BL] at *; rw [wr_id (by omega) (by omega)]; omega) | (intro h1 h2; exact Bool.and_eq_true_iff.2 ⟨h1, h2⟩) | first | exact ⟨rfl, by omega, by decide⟩ | exact ⟨isS_c _ _, hnt _ (by omega)⟩ | exact fun _ => ⟨isS_c _ _, hnt _ (by omega)⟩ | (intros; simp_all; done))); conv => whnf)
        | (refine Or.inr (And.intro rfl ?_); first | (refine congrArg intV ?_) | (refine congrArg boolV ?_) | (refine tupII ?_ ?_) | (refine tupIII ?_ ?_ ?_) | (refine tupU ?_ ?_ ?_ ?_ ?_) | exact rfl))
      · have e69 : IntKind.i64.wrap ((t : Int) + 1) = ((t + 1 : Nat) : Int) := (wr_id (by omega) (by omega)).trans (by omega)
        refine ⟨(t + 1, b || decide (fidx (sameN (s.ld t) (s.ld k i)) (s.nl t) ≥ 0)), [?_], ⟨by show t + 1 ≤ k; omega, tw_succ hb2⟩, by show k - (t + 1) < k - t; omega, ?_⟩
        rotate_left 1
        refine Sub.of ?_ ?_ ?_
        repeat' (first | (refine And.intro ?_ ?_) | exact trivial | exact fun _ _ _ => hsc _ _ | (exact congrArg intV (by first | with_reducible rfl | with_reducible assumption)) | exact (rfl : AV.idsLt _ _ = true) | exact (rfl : _ = AV.ren _ (.own _)) | exact (rfl : _ = AV.ren _ (.fn _ _)) | exact (rfl : _ = AV.ren _ (.gh _)) | (exact congrArg intV (by assumption)) | (refine congrArg intV ((wr_id (by omega) (by omega)).trans (by omega))) | exact rfl | (simp only [Int.toNat_natCast, Int.toNat_zero, Nat.sub_zero, Nat.zero_add]; first | exact rfl | done) | exact all0 | exact fun h => Bool.noConfusion h | exact fun _ _ _ _ => rfl | omega)
      · have hb7 := hb
        obtain rfl : t = k := by omega
        exact shE_ld (by omega) hk.2 hkm hrg hfm h12 hi.2 (by omega) ((if_pos (by assumption)).trans (if_pos (tw_iff.2 (hb2.1 hb7)))) (by decide)
      · have hb7 := hb
        obtain rfl : t = k := by omega
        have htw : ¬ twB s t i = true := fun h => by rw [hb2.2 (tw_iff.1 h)] at hb7; cases hb7
        have e50 : IntKind.i64.wrap ((i : Int) + 1) = ((i + 1 : Nat) : Int) := (wr_id (by omega) (by omega)).trans (by omega)
        refine ⟨i + 1, [?_], ⟨by omega, fun j hj => by
                rcases Nat.lt_succ_iff_lt_or_eq.1 hj with h | rfl
                · exact hi.2 j h
                · exact (if_pos (by assumption)).trans (if_neg htw)⟩, by omega, ?_⟩
        rotate_left 1
        refine Sub.of ?_ ?_ ?_
        repeat' (first | (refine And.intro ?_ ?_) | exact trivial | exact fun _ _ _ => hsc _ _ | (exact congrArg intV (by first | with_reducible rfl | with_reducible assumption)) | exact (rfl : AV.idsLt _ _ = true) | exact (rfl : _ = AV.ren _ (.own _)) | exact (rfl : _ = AV.ren _ (.fn _ _)) | exact (rfl : _ = AV.ren _ (.gh _)) | (exact congrArg intV (by assumption)) | (refine congrArg intV ((wr_id (by omega) (by omega)).trans (by omega))) | exact rfl | (simp only [Int.toNat_natCast, Int.toNat_zero, Nat.sub_zero, Nat.zero_add]; first | exact rfl | done) | exact all0 | exact fun h => Bool.noConfusion h | exact fun _ _ _ _ => rfl | omega)
    · obtain rfl : i = s.nl k := by omega
      have e15 : IntKind.i64.wrap ((k : Int) + 1) = ((k + 1 : Nat) : Int) := (wr_id (by omega) (by omega)).trans (by omega)
      refine ⟨k + 1, [], ⟨by omega, fun j hj => by
            rcases Nat.lt_succ_iff_lt_or_eq.1 hj with h | rfl
            · exact hk.2 j h
            · exact (stE_ld hrg hfm h12).trans (fst_of hi.2)⟩, by omega, ?_⟩
      refine Sub.of ?_ ?_ ?_
      repeat' (first | (refine And.intro ?_ ?_) | exact trivial | exact fun _ _ _ => hsc _ _ | (exact congrArg intV (by first | with_reducible rfl | with_reducible assumption)) | exact (rfl : AV.idsLt _ _ = true) | exact (rfl : _ = AV.ren _ (.own _)) | exact (rfl : _ = AV.ren _ (.fn _ _)) | exact (rfl : _ = AV.ren _ (.gh _)) | (exact congrArg intV (by assumption)) | (refine congrArg intV ((wr_id (by omega) (by omega)).trans (by omega))) | exact rfl | (simp only [Int.toNat_natCast, Int.toNat_zero, Nat.sub_zero, Nat.zero_add]; first | exact rfl | done) | exact all0 | exact fun h => Bool.noConfusion h | exact fun _ _ _ _ => rfl | omega)
  · obtain rfl : k = s.m := by omega
    exact ((if_neg (by omega)).trans (fst_of hk.2)).symm
end Go.Proofs.Ytmhjkleknpdkgaa
