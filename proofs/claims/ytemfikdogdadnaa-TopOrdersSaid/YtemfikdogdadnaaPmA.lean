/-
  Permits: names of devices, checks, papers; what the law's own functions answer.
-/
import Derived.Test.YtemfikdogdadnaaAlA
namespace Go.Proofs.Ytemfikdogdadnaa
open Go.RowKit

theorem pmIx (n : Nat) (p : Nat → ByteArray) (x : ByteArray) (hn : n ≤ maxLen) : Fn1 Try.prog 75 [.c (.sl 1 n (cS p)), strV x] (intV (fidx (sameN p x) n)) := by
  refine fn_of_wpx (O := lex) tab_ok gamN1_ok mixed Try.func75 (by kernel_rfl) rfl rfl rfl (by simp [Try.ntmps75]) (by kernel_rfl) ?_
  have hn' : n ≤ 9223372036854775807 := hn
  conv => whnf
  repeat' (first
    | (refine NilG.mk fun bn hbn hbx => ?_; conv => whnf)
    | (refine Both.mk ?_ ?_ <;> conv => whnf)
    | ((first | (refine MkG.box 1 rfl rfl rfl (by decide) ?_) | (refine MkG.box 2 rfl rfl rfl (by decide) ?_) | (refine MkG.box 3 rfl rfl rfl (by decide) ?_) | (refine MkG.row ?_)); conv => whnf)
    | exact trivial
    | (refine Br.mk (fun hb => ?_) (fun hb => ?_) <;> (first | (exfalso; revert hb; decide) | ((try simp only [BL] at hb) <;> (try simp only [DL] at hb) <;> conv => whnf)))
    | (refine And.intro ?_ ?_; (focus (first | exact id | exact rfl | exact trivial | (intro hg; first | exact hg | exact rfl | (simp; done) | (simp at hg ⊢; assumption)) | omega | decide | exact is2_c _ _ _ | exact is1_c _ _ | exact isS_c _ _ | exact isB_c _ _ | exact Nat.le_refl _ | assumption | exact mulLe (by decide) (by omega) | exact mulLe2 (by decide) (by omega) (by omega) | (intros; simp only [BL] at *; omega) | (intros; (try simp only [BL] at *); (try simp only [DL] at *); omega) | (intros; simp only [BL] at *; rw [wr_id (by omega) (by omega)]; omega) | (intro h1 h2; exact Bool.and_eq_true_iff.2 ⟨h1, h2⟩) | (intros; simp_all; done))); conv => whnf)
    | (refine Or.inr (And.intro rfl ?_); first | (refine congrArg intV ?_) | (refine congrArg boolV ?_) | (refine tupII ?_ ?_) | (refine tupIII ?_ ?_ ?_) | (refine tupU ?_ ?_ ?_ ?_ ?_) | exact rfl))
  refine sem_loop tab_ok gamN1_ok mixed (by kernel_rfl) (O := lex) (fun i : Nat => ⟨[(8, intV i), (7, intV n), (0, .c (.sl 1 n (cS p))), (1, strV x)], []⟩) (fun i => i ≤ n ∧ ∀ k, k < i → sameN p x k = false) (fun i => n - i) ⟨0, [], ⟨Nat.zero_le _, fun k hk => absurd hk (Nat.not_lt_zero _)⟩, ?_⟩ fun i hi => ?_
  · refine Sub.of ?_ ?_ ?_
    repeat' (first | (refine And.intro ?_ ?_) | exact trivial | exact fun _ _ _ => hsc _ _ | (exact congrArg intV (by first | with_reducible rfl | with_reducible assumption)) | exact (rfl : AV.idsLt _ _ = true) | exact (rfl : _ = AV.ren _ (.own _)) | exact (rfl : _ = AV.ren _ (.fn _ _)) | exact (rfl : _ = AV.ren _ (.gh _)) | (exact congrArg intV (by assumption)) | (refine congrArg intV ((wr_id (by omega) (by omega)).trans (by omega))) | exact rfl | (simp only [Int.toNat_natCast, Int.toNat_zero, Nat.sub_zero, Nat.zero_add]; first | exact rfl | done) | exact all0 | exact fun h => Bool.noConfusion h | exact fun _ _ _ _ => rfl | omega)
  conv => whnf
  repeat' (first
    | (refine NilG.mk fun bn hbn hbx => ?_; conv => whnf)
    | (refine Both.mk ?_ ?_ <;> conv => whnf)
    | ((first | (refine MkG.box 1 rfl rfl rfl (by decide) ?_) | (refine MkG.box 2 rfl rfl rfl (by decide) ?_) | (refine MkG.box 3 rfl rfl rfl (by decide) ?_) | (refine MkG.row ?_)); conv => whnf)
    | exact trivial
    | (refine Br.mk (fun hb => ?_) (fun hb => ?_) <;> (first | (exfalso; revert hb; decide) | ((try simp only [BL] at hb) <;> (try simp only [DL] at hb) <;> (first | (exfalso; omega) | (conv => whnf)))))
    | (refine And.intro ?_ ?_; (focus (first | exact id | exact rfl | exact trivial | (intro hg; first | exact hg | exact rfl | (simp; done) | (simp at hg ⊢; assumption)) | omega | decide | exact is2_c _ _ _ | exact is1_c _ _ | exact isS_c _ _ | exact isB_c _ _ | exact Nat.le_refl _ | assumption | exact mulLe (by decide) (by omega) | exact mulLe2 (by decide) (by omega) (by omega) | (intros; simp only [BL] at *; omega) | (intros; (try simp only [BL] at *); (try simp only [DL] at *); omega) | (intros; simp only [BL] at *; rw [wr_id (by omega) (by omega)]; omega) | (intro h1 h2; exact Bool.and_eq_true_iff.2 ⟨h1, h2⟩) | (intros; simp_all; done))); conv => whnf)
    | (refine Or.inr (And.intro rfl ?_); first | (refine congrArg intV ?_) | (refine congrArg boolV ?_) | (refine tupII ?_ ?_) | (refine tupIII ?_ ?_ ?_) | (refine tupU ?_ ?_ ?_ ?_ ?_) | exact rfl))
  · exact (fidx_at hi.2 (b_eq.2 (b_eq.1 hb).symm) (by omega)).symm
  · have h1 : sameN p x i = false := b_ne.2 fun e => b_ne.1 hb e.symm
    refine ⟨i + 1, [], ⟨by omega, fun k hk => by rcases Nat.lt_succ_iff_lt_or_eq.1 hk with h | rfl <;> first | exact hi.2 k h | exact h1⟩, by omega, ?_⟩
    refine Sub.of ?_ ?_ ?_
    repeat' (first | (refine And.intro ?_ ?_) | exact trivial | exact fun _ _ _ => hsc _ _ | (exact congrArg intV (by first | with_reducible rfl | with_reducible assumption)) | exact (rfl : AV.idsLt _ _ = true) | exact (rfl : _ = AV.ren _ (.own _)) | exact (rfl : _ = AV.ren _ (.fn _ _)) | exact (rfl : _ = AV.ren _ (.gh _)) | (exact congrArg intV (by assumption)) | (refine congrArg intV ((wr_id (by omega) (by omega)).trans (by omega))) | exact rfl | (simp only [Int.toNat_natCast, Int.toNat_zero, Nat.sub_zero, Nat.zero_add]; first | exact rfl | done) | exact all0 | exact fun h => Bool.noConfusion h | exact fun _ _ _ _ => rfl | omega)
  · obtain rfl : i = n := by omega
    exact (fidx_none hi.2).symm
theorem pmHas (n : Nat) (p : Nat → ByteArray) (x : ByteArray) (hn : n ≤ maxLen) : Fn1 Try.prog 41 [.c (.sl 1 n (cS p)), strV x] (boolV (hasB p n x)) := by
  refine fn_of_wpx (O := lex) tab_ok (Γ := fun _ => none) (fun _ _ h => by cases h) mixed Try.func41 (by kernel_rfl) rfl rfl rfl (by simp [Try.ntmps41]) (by kernel_rfl) ?_
  conv => whnf
  repeat' (first
    | (refine NilG.mk fun bn hbn hbx => ?_; conv => whnf)
    | (refine Both.mk ?_ ?_ <;> conv => whnf)
    | ((first | (refine MkG.box 1 rfl rfl rfl (by decide) ?_) | (refine MkG.box 2 rfl rfl rfl (by decide) ?_) | (refine MkG.box 3 rfl rfl rfl (by decide) ?_) | (refine MkG.row ?_)); conv => whnf)
    | exact trivial
    | (refine Br.mk (fun hb => ?_) (fun hb => ?_) <;> (first | (exfalso; revert hb; decide) | ((try simp only [BL] at hb) <;> (try simp only [DL] at hb) <;> conv => whnf)))
    | (refine And.intro ?_ ?_; (focus (first | exact id | exact rfl | exact trivial | (intro hg; first | exact hg | exact rfl | (simp; done) | (simp at hg ⊢; assumption)) | omega | decide | exact is2_c _ _ _ | exact is1_c _ _ | exact isS_c _ _ | exact isB_c _ _ | exact Nat.le_refl _ | assumption | exact mulLe (by decide) (by omega) | exact mulLe2 (by decide) (by omega) (by omega) | (intros; simp only [BL] at *; omega) | (intros; (try simp only [BL] at *); (try simp only [DL] at *); omega) | (intros; simp only [BL] at *; rw [wr_id (by omega) (by omega)]; omega) | (intro h1 h2; exact Bool.and_eq_true_iff.2 ⟨h1, h2⟩) | (intros; simp_all; done))); conv => whnf)
    | (refine Or.inr (And.intro rfl ?_); first | (refine congrArg intV ?_) | (refine congrArg boolV ?_) | (refine tupII ?_ ?_) | (refine tupIII ?_ ?_ ?_) | (refine tupU ?_ ?_ ?_ ?_ ?_) | exact rfl))
  refine CallG.mk (Fn.mono (pmIx n p x hn) ?_)
  rintro obs r ⟨rfl, rfl⟩
  conv => whnf
  repeat' (first
    | (refine NilG.mk fun bn hbn hbx => ?_; conv => whnf)
    | (refine Both.mk ?_ ?_ <;> conv => whnf)
    | ((first | (refine MkG.box 1 rfl rfl rfl (by decide) ?_) | (refine MkG.box 2 rfl rfl rfl (by decide) ?_) | (refine MkG.box 3 rfl rfl rfl (by decide) ?_) | (refine MkG.row ?_)); conv => whnf)
    | exact trivial
    | (refine Br.mk (fun hb => ?_) (fun hb => ?_) <;> (first | (exfalso; revert hb; decide) | ((try simp only [BL] at hb) <;> (try simp only [DL] at hb) <;> conv => whnf)))
    | (refine And.intro ?_ ?_; (focus (first | exact id | exact rfl | exact trivial | (intro hg; first | exact hg | exact rfl | (simp; done) | (simp at hg ⊢; assumption)) | omega | decide | exact is2_c _ _ _ | exact is1_c _ _ | exact isS_c _ _ | exact isB_c _ _ | exact Nat.le_refl _ | assumption | exact mulLe (by decide) (by omega) | exact mulLe2 (by decide) (by omega) (by omega) | (intros; simp only [BL] at *; omega) | (intros; (try simp only [BL] at *); (try simp only [DL] at *); omega) | (intros; simp only [BL] at *; rw [wr_id (by omega) (by omega)]; omega) | (intro h1 h2; exact Bool.and_eq_true_iff.2 ⟨h1, h2⟩) | (intros; simp_all; done))); conv => whnf)
    | (refine Or.inr (And.intro rfl ?_); first | (refine congrArg intV ?_) | (refine congrArg boolV ?_) | (refine tupII ?_ ?_) | (refine tupIII ?_ ?_ ?_) | (refine tupU ?_ ?_ ?_ ?_ ?_) | exact rfl))
  · rfl
theorem pmIdx (n : Nat) (p : Nat → ByteArray) (x : ByteArray) (hn : n ≤ maxLen) : Fn1 Try.prog 94 [.c (.sl 1 n (cS p)), strV x] (intV (fidx (sameN p x) n)) := by
  refine fn_of_wpx (O := lex) tab_ok gamN1_ok mixed Try.func94 (by kernel_rfl) rfl rfl rfl (by simp [Try.ntmps94]) (by kernel_rfl) ?_
  have hn' : n ≤ 9223372036854775807 := hn
  conv => whnf
  repeat' (first
    | (refine NilG.mk fun bn hbn hbx => ?_; conv => whnf)
    | (refine Both.mk ?_ ?_ <;> conv => whnf)
    | ((first | (refine MkG.box 1 rfl rfl rfl (by decide) ?_) | (refine MkG.box 2 rfl rfl rfl (by decide) ?_) | (refine MkG.box 3 rfl rfl rfl (by decide) ?_) | (refine MkG.row ?_)); conv => whnf)
    | exact trivial
    | (refine Br.mk (fun hb => ?_) (fun hb => ?_) <;> (first | (exfalso; revert hb; decide) | ((try simp only [BL] at hb) <;> (try simp only [DL] at hb) <;> conv => whnf)))
    | (refine And.intro ?_ ?_; (focus (first | exact id | exact rfl | exact trivial | (intro hg; first | exact hg | exact rfl | (simp; done) | (simp at hg ⊢; assumption)) | omega | decide | exact is2_c _ _ _ | exact is1_c _ _ | exact isS_c _ _ | exact isB_c _ _ | exact Nat.le_refl _ | assumption | exact mulLe (by decide) (by omega) | exact mulLe2 (by decide) (by omega) (by omega) | (intros; simp only [BL] at *; omega) | (intros; (try simp only [BL] at *); (try simp only [DL] at *); omega) | (intros; simp only [BL] at *; rw [wr_id (by omega) (by omega)]; omega) | (intro h1 h2; exact Bool.and_eq_true_iff.2 ⟨h1, h2⟩) | (intros; simp_all; done))); conv => whnf)
    | (refine Or.inr (And.intro rfl ?_); first | (refine congrArg intV ?_) | (refine congrArg boolV ?_) | (refine tupII ?_ ?_) | (refine tupIII ?_ ?_ ?_) | (refine tupU ?_ ?_ ?_ ?_ ?_) | exact rfl))
  refine sem_loop tab_ok gamN1_ok mixed (by kernel_rfl) (O := lex) (fun i : Nat => ⟨[(1, strV x), (7, .c (.sl 1 n (cS p))), (8, intV n), (9, intV i)], []⟩) (fun i => i ≤ n ∧ ∀ k, k < i → sameN p x k = false) (fun i => n - i) ⟨0, [], ⟨Nat.zero_le _, fun k hk => absurd hk (Nat.not_lt_zero _)⟩, ?_⟩ fun i hi => ?_
  · refine Sub.of ?_ ?_ ?_
    repeat' (first | (refine And.intro ?_ ?_) | exact trivial | exact fun _ _ _ => hsc _ _ | (exact congrArg intV (by first | with_reducible rfl | with_reducible assumption)) | exact (rfl : AV.idsLt _ _ = true) | exact (rfl : _ = AV.ren _ (.own _)) | exact (rfl : _ = AV.ren _ (.fn _ _)) | exact (rfl : _ = AV.ren _ (.gh _)) | (exact congrArg intV (by assumption)) | (refine congrArg intV ((wr_id (by omega) (by omega)).trans (by omega))) | exact rfl | (simp only [Int.toNat_natCast, Int.toNat_zero, Nat.sub_zero, Nat.zero_add]; first | exact rfl | done) | exact all0 | exact fun h => Bool.noConfusion h | exact fun _ _ _ _ => rfl | omega)
  conv => whnf
  repeat' (first
    | (refine NilG.mk fun bn hbn hbx => ?_; conv => whnf)
    | (refine Both.mk ?_ ?_ <;> conv => whnf)
    | ((first | (refine MkG.box 1 rfl rfl rfl (by decide) ?_) | (refine MkG.box 2 rfl rfl rfl (by decide) ?_) | (refine MkG.box 3 rfl rfl rfl (by decide) ?_) | (refine MkG.row ?_)); conv => whnf)
    | exact trivial
    | (refine Br.mk (fun hb => ?_) (fun hb => ?_) <;> (first | (exfalso; revert hb; decide) | ((try simp only [BL] at hb) <;> (try simp only [DL] at hb) <;> (first | (exfalso; omega) | (conv => whnf)))))
    | (refine And.intro ?_ ?_; (focus (first | exact id | exact rfl | exact trivial | (intro hg; first | exact hg | exact rfl | (simp; done) | (simp at hg ⊢; assumption)) | omega | decide | exact is2_c _ _ _ | exact is1_c _ _ | exact isS_c _ _ | exact isB_c _ _ | exact Nat.le_refl _ | assumption | exact mulLe (by decide) (by omega) | exact mulLe2 (by decide) (by omega) (by omega) | (intros; simp only [BL] at *; omega) | (intros; (try simp only [BL] at *); (try simp only [DL] at *); omega) | (intros; simp only [BL] at *; rw [wr_id (by omega) (by omega)]; omega) | (intro h1 h2; exact Bool.and_eq_true_iff.2 ⟨h1, h2⟩) | (intros; simp_all; done))); conv => whnf)
    | (refine Or.inr (And.intro rfl ?_); first | (refine congrArg intV ?_) | (refine congrArg boolV ?_) | (refine tupII ?_ ?_) | (refine tupIII ?_ ?_ ?_) | (refine tupU ?_ ?_ ?_ ?_ ?_) | exact rfl))
  · exact (fidx_at hi.2 hb (by omega)).symm
  · have h1 : sameN p x i = false := hb
    refine ⟨i + 1, [], ⟨by omega, fun k hk => by rcases Nat.lt_succ_iff_lt_or_eq.1 hk with h | rfl <;> first | exact hi.2 k h | exact h1⟩, by omega, ?_⟩
    refine Sub.of ?_ ?_ ?_
    repeat' (first | (refine And.intro ?_ ?_) | exact trivial | exact fun _ _ _ => hsc _ _ | (exact congrArg intV (by first | with_reducible rfl | with_reducible assumption)) | exact (rfl : AV.idsLt _ _ = true) | exact (rfl : _ = AV.ren _ (.own _)) | exact (rfl : _ = AV.ren _ (.fn _ _)) | exact (rfl : _ = AV.ren _ (.gh _)) | (exact congrArg intV (by assumption)) | (refine congrArg intV ((wr_id (by omega) (by omega)).trans (by omega))) | exact rfl | (simp only [Int.toNat_natCast, Int.toNat_zero, Nat.sub_zero, Nat.zero_add]; first | exact rfl | done) | exact all0 | exact fun h => Bool.noConfusion h | exact fun _ _ _ _ => rfl | omega)
  · obtain rfl : i = n := by omega
    exact (fidx_none hi.2).symm
def nmsE (n : Nat) (p : Nat → ByteArray) : Int := if 256 < n then 2 else fst (nmE1 p) n
def gamPa : Gam := fun f => match f with
  | 38 => some (s1S (fun a => a.size ≤ maxLen) nameB)
  | 58 => some (s1S (fun a => a.size ≤ maxLen) nameB)
  | 41 => some (sHas fun p n x => boolV (hasB p n x))
  | 94 => some (sHas fun p n x => intV (fidx (sameN p x) n))
  | _ => gamN1 f
theorem gamPa_ok : GOk Try.prog gamPa := fun f g h => by
  unfold gamPa at h
  split at h
  · injection h with h; subst h; exact s1S_ok name1
  · injection h with h; subst h; exact s1S_ok named4
  · injection h with h; subst h; exact sHas_ok pmHas
  · injection h with h; subst h; exact sHas_ok pmIdx
  · exact gamN1_ok _ _ h
theorem nm_at {n k : Nat} {p : Nat → ByteArray} {c : Int} (h : ¬ 256 < n) (h0 : ∀ j, j < k → nmE1 p j = 0) (hk : k < n) (he : nmE1 p k = c) (hc : c ≠ 0) : c = nmsE n p := (fst_eq (fst_of h0) hk he hc).trans (if_neg h).symm
theorem pmChk (n : Nat) (p : Nat → ByteArray) (h : nmOk n p) : Fn1 Try.prog 36 [.c (.sl 1 n (cS p))] (intV (nmsE n p)) := by
  refine fn_of_wpx (O := lex) tab_ok gamPa_ok mixed Try.func36 (by kernel_rfl) rfl rfl rfl (by simp [Try.ntmps36]) (by kernel_rfl) ?_
  have hm := h.1
  have hnm := h.2
  conv => whnf
  repeat' (first
    | (refine NilG.mk fun bn hbn hbx => ?_; conv => whnf)
    | (refine Both.mk ?_ ?_ <;> conv => whnf)
    | ((first | (refine MkG.box 1 rfl rfl rfl (by decide) ?_) | (refine MkG.box 2 rfl rfl rfl (by decide) ?_) | (refine MkG.box 3 rfl rfl rfl (by decide) ?_) | (refine MkG.row ?_)); conv => whnf)
    | exact trivial
    | (refine Br.mk (fun hb => ?_) (fun hb => ?_) <;> (first | (exfalso; revert hb; decide) | ((try simp only [BL] at hb) <;> (try simp only [DL] at hb) <;> (first | (exfalso; omega) | (conv => whnf)))))
    | (refine And.intro ?_ ?_; (focus (first | exact id | exact rfl | exact trivial | (intro hg; first | exact hg | exact rfl | (simp; done) | (simp at hg ⊢; assumption)) | omega | decide | exact is2_c _ _ _ | exact is1_c _ _ | exact isS_c _ _ | exact isB_c _ _ | exact Nat.le_refl _ | assumption | exact mulLe (by decide) (by omega) | exact mulLe2 (by decide) (by omega) (by omega) | (intros; simp only [BL] at *; omega) | (intros; (try simp only [BL] at *); (try simp only [DL] at *); omega) | (intros; simp only [BL] at *; rw [wr_id (by omega) (by omega)]; omega) | (intro h1 h2; exact Bool.and_eq_true_iff.2 ⟨h1, h2⟩) | (intros; simp_all; done))); conv => whnf)
    | (refine Or.inr (And.intro rfl ?_); first | (refine congrArg intV ?_) | (refine congrArg boolV ?_) | (refine tupII ?_ ?_) | (refine tupIII ?_ ?_ ?_) | (refine tupU ?_ ?_ ?_ ?_ ?_) | exact rfl))
  · exact (if_pos (by omega)).symm
  refine sem_loop tab_ok gamPa_ok mixed (by kernel_rfl) (O := lex) (fun i : Nat => ⟨[(0, .c (.sl 1 n (cS p))), (8, .c (.sl 1 n (cS p))), (9, intV n), (10, intV i)], []⟩) (fun i => i ≤ n ∧ ∀ k, k < i → nmE1 p k = 0) (fun i => n - i) ⟨0, [], ⟨Nat.zero_le _, fun k hk => absurd hk (Nat.not_lt_zero _)⟩, ?_⟩ fun i hi => ?_
  · refine Sub.of ?_ ?_ ?_
    repeat' (first | (refine And.intro ?_ ?_) | exact trivial | exact fun _ _ _ => hsc _ _ | (exact congrArg intV (by first | with_reducible rfl | with_reducible assumption)) | exact (rfl : AV.idsLt _ _ = true) | exact (rfl : _ = AV.ren _ (.own _)) | exact (rfl : _ = AV.ren _ (.fn _ _)) | exact (rfl : _ = AV.ren _ (.gh _)) | (exact congrArg intV (by assumption)) | (refine congrArg intV ((wr_id (by omega) (by omega)).trans (by omega))) | exact rfl | (simp only [Int.toNat_natCast, Int.toNat_zero, Nat.sub_zero, Nat.zero_add]; first | exact rfl | done) | exact all0 | exact fun h => Bool.noConfusion h | exact fun _ _ _ _ => rfl | omega)
  conv => whnf
  repeat' (first
    | (refine NilG.mk fun bn hbn hbx => ?_; conv => whnf)
    | (refine Both.mk ?_ ?_ <;> conv => whnf)
    | ((first | (refine MkG.box 1 rfl rfl rfl (by decide) ?_) | (refine MkG.box 2 rfl rfl rfl (by decide) ?_) | (refine MkG.box 3 rfl rfl rfl (by decide) ?_) | (refine MkG.row ?_)); conv => whnf)
    | exact trivial
    | (refine Br.mk (fun hb => ?_) (fun hb => ?_) <;> (first | (exfalso; revert hb; decide) | ((try simp only [BL] at hb) <;> (try simp only [DL] at hb) <;> (first | (exfalso; omega) | (conv => whnf)))))
    | (refine And.intro ?_ ?_; (focus (first | exact id | exact rfl | exact trivial | (intro hg; first | exact hg | exact rfl | (simp; done) | (simp at hg ⊢; assumption)) | omega | decide | exact is2_c _ _ _ | exact is1_c _ _ | exact isS_c _ _ | exact isB_c _ _ | exact Nat.le_refl _ | assumption | exact mulLe (by decide) (by omega) | exact mulLe2 (by decide) (by omega) (by omega) | (intros; simp only [BL] at *; omega) | (intros; (try simp only [BL] at *); (try simp only [DL] at *); omega) | (intros; simp only [BL] at *; rw [wr_id (by omega) (by omega)]; omega) | (intro h1 h2; exact Bool.and_eq_true_iff.2 ⟨h1, h2⟩) | first | exact ⟨rfl, by omega, by decide⟩ | exact hnm _ (by omega) | exact ⟨isS_c _ _, by omega⟩ | (intros; simp_all; done))); conv => whnf)
    | (refine Or.inr (And.intro rfl ?_); first | (refine congrArg intV ?_) | (refine congrArg boolV ?_) | (refine tupII ?_ ?_) | (refine tupIII ?_ ?_ ?_) | (refine tupU ?_ ?_ ?_ ?_ ?_) | exact rfl))
  · exact nm_at (by omega) hi.2 (by omega) (if_neg (by rw [hb]; decide)) (by decide)
  · rename_i h1
    exact nm_at (by omega) hi.2 (by omega) ((if_pos h1).trans (if_pos (has_z.symm.trans hb))) (by decide)
  · rename_i h1
    have h2 : ¬ hasB p i (p i) = true := fun h => by
      have h3 := has_z.trans h
      rw [hb] at h3
      cases h3
    refine ⟨i + 1, [], ⟨by omega, fun k hk => by
        rcases Nat.lt_succ_iff_lt_or_eq.1 hk with h | rfl
        · exact hi.2 k h
        · exact (if_pos h1).trans (if_neg h2)⟩, by omega, ?_⟩
    refine Sub.of ?_ ?_ ?_
    repeat' (first | (refine And.intro ?_ ?_) | exact trivial | exact fun _ _ _ => hsc _ _ | (exact congrArg intV (by first | with_reducible rfl | with_reducible assumption)) | exact (rfl : AV.idsLt _ _ = true) | exact (rfl : _ = AV.ren _ (.own _)) | exact (rfl : _ = AV.ren _ (.fn _ _)) | exact (rfl : _ = AV.ren _ (.gh _)) | (exact congrArg intV (by assumption)) | (refine congrArg intV ((wr_id (by omega) (by omega)).trans (by omega))) | exact rfl | (simp only [Int.toNat_natCast, Int.toNat_zero, Nat.sub_zero, Nat.zero_add]; first | exact rfl | done) | exact all0 | exact fun h => Bool.noConfusion h | exact fun _ _ _ _ => rfl | omega)
  · obtain rfl : i = n := by omega
    exact ((if_neg (by omega)).trans (fst_of hi.2)).symm
/-- a call of a desk -/
structure PCall where
  kind : Int
  num : Int
  ho : ByteArray
  to : ByteArray
  n : Nat
  p : Nat → ByteArray
def PCall.ok (c : PCall) : Prop := c.ho.size ≤ maxLen ∧ c.to.size ≤ maxLen ∧ nmOk c.n c.p
abbrev pcV (c : PCall) : AV := .agg [intV c.kind, intV c.num, strV c.ho, strV c.to, .c (.sl 1 c.n (cS c.p))]
/-- what issuing answers -/
def allB (N : Nat) (dn : Nat → ByteArray) (n : Nat) (p : Nat → ByteArray) : Prop := ∀ k, k < n → hasB dn N (p k) = true
instance (N : Nat) (dn : Nat → ByteArray) (n : Nat) (p : Nat → ByteArray) : Decidable (allB N dn n p) := by unfold allB; infer_instance
def isE (N : Nat) (dn : Nat → ByteArray) (ho : ByteArray) (n : Nat) (p : Nat → ByteArray) (many : Nat) : Int := if nameB ho = true then (if nmsE n p = 0 then (if allB N dn n p then (if n = 0 then 3 else if 12 < n then 2 else if many = 20 then 9 else 0) else 8) else nmsE n p) else 6
def sNe : List AV → Sd × AV
  | [.c (.sl 1 n f)] => (.p (isS n f ∧ nmOk n (dS f)), intV (nmsE n (dS f)))
  | _ => (.p False, .top)
def gamPb : Gam := fun f => match f with
  | 36 => some sNe
  | _ => gamPa f
theorem gamPb_ok : GOk Try.prog gamPb := fun f g h => by
  unfold gamPb at h
  split at h
  · injection h with h; subst h
    intro args hs _
    unfold sNe at hs ⊢
    split at hs
    · exact (pmChk _ _ hs.2).le (Le.cons (Le1.sl hs.1) Le.nil)
    · exact hs.elim
  · exact gamPa_ok _ _ h
theorem hasI {p : Nat → ByteArray} {n : Nat} {x : ByteArray} : fidx (sameN p x) n < 0 ↔ ¬ hasB p n x = true := by
  unfold hasB
  rw [decide_eq_true_eq]
  omega
/-- what holding answers -/
def heE (x : ByteArray) (ho : ByteArray) : Int := if x = ho then 0 else 18
structure Pap where
  n : Nat
  nu : Nat → Int
  ho : Nat → ByteArray
  dl : Nat → Nat
  dv : Nat → Nat → ByteArray
def cPap (p : Pap) : Nat → Nat → L := fun k j => [iL (p.nu k), sL (p.ho k), .sl 1 (p.dl k) (cS (p.dv k))].getD j .un
def numB (p : Pap) (x : Int) (k : Nat) : Bool := decide (p.nu k = x)
/-- the error of a holder, for the place that was found -/
def hdE (p : Pap) (i : Int) (ho : ByteArray) : Int := if i < 0 then 8 else if p.ho i.toNat = ho then 0 else 18
end Go.Proofs.Ytemfikdogdadnaa
