/-
  The reference's patterns of a generator; dual.single and dual.Single.
-/
import Derived.Test.YtemfikdogdadnaaDsgP
namespace Go.Proofs.Ytemfikdogdadnaa
open Go.RowKit

abbrev cuS (u : CuR) : US := ⟨u.on, u.si, u.po⟩
/-- the powers of a pattern for the reference; whether it is permitted, and its cost of starts -/
abbrev pLe (u : CuR) (b : Nat) : Nat → Int := pw (fun _ => u.r.le) b
def pOk (u : CuR) (n b : Nat) : Bool := decide (fst (eAt u.r (cuS u) (pLe u b)) n = 0)
def pCo (u : CuR) (n b : Nat) : Int := S (cAt u.r (cuS u) (pLe u b)) n
def patC (u : CuR) (n b : Nat) : Nat → Nat → L := fun k j => if k < n then iL (bt b k) else [iL (pCo u n b)][(k - n) * 1 + j]?.getD (L.v undef)
def patR (u : CuR) (n : Nat) (A : List Nat) : Nat → Nat → L := fun k _ => .sl 1 (n + 1) (patC u n (A.getD k 0))
def gamD1 : Gam := fun f => match f with
  | 63 => some (sRUi (fun r on si po _ => staE r on si po = 0) nV)
  | _ => none
theorem gamD1_ok : GOk Try.prog gamD1 := fun f g h => by
  unfold gamD1 at h
  split at h
  · injection h with h; subst h; exact sRUi_ok umoved
  · cases h
theorem two_pow : ∀ n : Nat, n ≤ 8 → shlI .i64 1 n = ((2 ^ n : Nat) : Int) ∧ 2 ^ n ≤ 256 := by
  intro n hn
  match n, hn with
  | 0, _ => exact ⟨by decide, by decide⟩
  | 1, _ => exact ⟨by decide, by decide⟩
  | 2, _ => exact ⟨by decide, by decide⟩
  | 3, _ => exact ⟨by decide, by decide⟩
  | 4, _ => exact ⟨by decide, by decide⟩
  | 5, _ => exact ⟨by decide, by decide⟩
  | 6, _ => exact ⟨by decide, by decide⟩
  | 7, _ => exact ⟨by decide, by decide⟩
  | 8, _ => exact ⟨by decide, by decide⟩
theorem fst_cases {e : Nat → Int} {t : Nat} (h : fst e t = 0) (h1 : e t ≠ 0) {n : Nat} (ht : t < n) : fst e n ≠ 0 := by
  rw [fst_at h h1 ht]
  exact h1
set_option maxHeartbeats 1000000 in
theorem patt (u : CuR) (n : Nat) (hn : n ≤ 8) (hu : staE u.r u.on u.si u.po = 0) : Fn Try.prog 31 [cuV u, intV n] (fun obs v => obs = [] ∧ v = .c (.sl 1 (dgL (pOk u n) (2 ^ n)).length (patR u n (dgL (pOk u n) (2 ^ n))))) := by
  refine fn_of_wpx (O := lex) tab_ok gamD1_ok mixed Try.func31 (by kernel_rfl) rfl rfl rfl (by simp [Try.ntmps31]) (by kernel_rfl) ?_
  obtain ⟨hp2, hp64⟩ := two_pow n hn
  conv => whnf
  repeat' (first
    | (refine NilG.mk fun bn hbn hbx => ?_; conv => whnf)
    | (refine Both.mk ?_ ?_ <;> conv => whnf)
    | ((first | (refine MkG.box 1 rfl rfl rfl (by decide) ?_) | (refine MkG.box 2 rfl rfl rfl (by decide) ?_) | (refine MkG.box 3 rfl rfl rfl (by decide) ?_) | (refine MkG.row ?_)); conv => whnf)
    | exact trivial
    | (refine Br.mk (fun hb => ?_) (fun hb => ?_) <;> (first | (exfalso; revert hb; decide) | ((try simp only [BL] at hb) <;> (try simp only [DL] at hb) <;> conv => whnf)))
    | (refine And.intro ?_ ?_; (focus (first | exact id | exact rfl | exact trivial | (intro hg; first | exact hg | exact rfl | (simp; done) | (simp at hg ⊢; assumption)) | omega | decide | exact is2_c _ _ _ | exact is1_c _ _ | exact isS_c _ _ | exact isB_c _ _ | exact Nat.le_refl _ | assumption | exact mulLe (by decide) (by omega) | exact mulLe2 (by decide) (by omega) (by omega) | (intros; simp only [BL] at *; omega) | (intros; (try simp only [BL] at *); (try simp only [DL] at *); omega) | (intros; simp only [BL] at *; rw [wr_id (by omega) (by omega)]; omega) | (intro h1 h2; exact Bool.and_eq_true_iff.2 ⟨h1, h2⟩) | (intros; simp_all; done))); conv => whnf)
    | (refine Or.inr (And.intro rfl ?_); first | (refine congrArg intV ?_) | (refine congrArg boolV ?_) | (refine tupII ?_ ?_) | (refine tupIII ?_ ?_ ?_) | (refine tupU ?_ ?_ ?_ ?_ ?_) | exact rfl))
  refine LoopG.nil 5 51 1 rfl ?_
  refine sem_loop tab_ok gamD1_ok mixed (by kernel_rfl) (O := lex) (fun b : Nat => ⟨[(1, intV n), (2, .lp 0 0), (5, .own 1), (17, intV (2 ^ n : Nat)), (18, intV b)], [.box [strV u.r.nm, intV u.r.le, intV u.r.mo, intV u.r.up, intV u.r.dn, intV u.r.mi, intV u.r.mf, intV u.r.st, strV u.s, .c (.sl 2 u.m (c2 u.p u.q)), boolV u.on, intV u.si, intV u.po], .row 51 1 (dgL (pOk u n) b).length false (patR u n (dgL (pOk u n) b))]⟩) (fun b => b ≤ 2 ^ n) (fun b => 2 ^ n - b) ⟨0, [?_, ?_], Nat.zero_le _, ?_⟩ fun b hb0 => ?_
  rotate_left 2
  · refine Sub.of ?_ ?_ ?_
    repeat' (first | (refine And.intro ?_ ?_) | exact trivial | exact fun _ _ _ => hsc _ _ | (exact congrArg intV (by first | with_reducible rfl | with_reducible assumption)) | exact (rfl : AV.idsLt _ _ = true) | exact (rfl : _ = AV.ren _ (.own _)) | exact (rfl : _ = AV.ren _ (.fn _ _)) | exact (rfl : _ = AV.ren _ (.gh _)) | (exact congrArg intV (by assumption)) | (refine congrArg intV ((wr_id (by omega) (by omega)).trans (by omega))) | exact rfl | (simp only [Int.toNat_natCast, Int.toNat_zero, Nat.sub_zero, Nat.zero_add]; first | exact rfl | done) | exact all0 | exact fun h => Bool.noConfusion h | exact fun _ _ _ _ => rfl | omega)
  conv => whnf
  repeat' (first
    | (refine NilG.mk fun bn hbn hbx => ?_; conv => whnf)
    | (refine Both.mk ?_ ?_ <;> conv => whnf)
    | ((first | (refine MkG.box 1 rfl rfl rfl (by decide) ?_) | (refine MkG.box 2 rfl rfl rfl (by decide) ?_) | (refine MkG.box 3 rfl rfl rfl (by decide) ?_) | (refine MkG.row ?_)); conv => whnf)
    | exact trivial
    | (refine Br.mk (fun hb => ?_) (fun hb => ?_) <;> (first | (exfalso; revert hb; decide) | ((try simp only [BL] at hb) <;> (try simp only [DL] at hb) <;> conv => whnf)))
    | (refine And.intro ?_ ?_; (focus (first | exact id | exact rfl | exact trivial | (intro hg; first | exact hg | exact rfl | (simp; done) | (simp at hg ⊢; assumption)) | omega | decide | exact is2_c _ _ _ | exact is1_c _ _ | exact isS_c _ _ | exact isB_c _ _ | exact Nat.le_refl _ | assumption | exact mulLe (by decide) (by omega) | exact mulLe2 (by decide) (by omega) (by omega) | (intros; simp only [BL] at *; omega) | (intros; (try simp only [BL] at *); (try simp only [DL] at *); omega) | (intros; simp only [BL] at *; rw [wr_id (by omega) (by omega)]; omega) | (intro h1 h2; exact Bool.and_eq_true_iff.2 ⟨h1, h2⟩) | (intros; simp_all; done))); conv => whnf)
    | (refine Or.inr (And.intro rfl ?_); first | (refine congrArg intV ?_) | (refine congrArg boolV ?_) | (refine tupII ?_ ?_) | (refine tupIII ?_ ?_ ?_) | (refine tupU ?_ ?_ ?_ ?_ ?_) | exact rfl))
  · have hbN : b < 2 ^ n := by omega
    refine sem_loop tab_ok gamD1_ok mixed (by kernel_rfl) (O := lex) (fun t : Nat => ⟨[(1, intV n), (2, .lp 0 0), (5, .own 1), (6, intV b), (7, .lp 2 0), (8, intV (S (cAt u.r (cuS u) (pLe u b)) t)), (9, boolV true), (10, .own 3), (17, intV (2 ^ n : Nat)), (18, intV b), (24, intV n), (25, intV t)], [.box [strV u.r.nm, intV u.r.le, intV u.r.mo, intV u.r.up, intV u.r.dn, intV u.r.mi, intV u.r.mf, intV u.r.st, strV u.s, .c (.sl 2 u.m (c2 u.p u.q)), boolV u.on, intV u.si, intV u.po], .row 51 1 (dgL (pOk u n) b).length false (patR u n (dgL (pOk u n) b)), .box [boolV (stt u.r (cuS u) (pLe u b) t).on, intV (stt u.r (cuS u) (pLe u b) t).si, intV (stt u.r (cuS u) (pLe u b) t).po], .row 3 1 t false (fun a _ => iL (bt b a))]⟩) (fun t => t ≤ n ∧ fst (eAt u.r (cuS u) (pLe u b)) t = 0) (fun t => n - t) ⟨0, [?_, ?_, ?_, ?_], ⟨Nat.zero_le _, rfl⟩, ?_⟩ fun t ht => ?_
    rotate_left 4
    · refine Sub.of ?_ ?_ ?_
      repeat' (first | (refine And.intro ?_ ?_) | exact trivial | exact fun _ _ _ => hsc _ _ | (exact congrArg intV (by first | with_reducible rfl | with_reducible assumption)) | exact (rfl : AV.idsLt _ _ = true) | exact (rfl : _ = AV.ren _ (.own _)) | exact (rfl : _ = AV.ren _ (.fn _ _)) | exact (rfl : _ = AV.ren _ (.gh _)) | (exact congrArg intV (by assumption)) | (refine congrArg intV ((wr_id (by omega) (by omega)).trans (by omega))) | exact rfl | (simp only [Int.toNat_natCast, Int.toNat_zero, Nat.sub_zero, Nat.zero_add]; first | exact rfl | done) | exact all0 | exact fun h => Bool.noConfusion h | exact fun _ _ _ _ => rfl | omega)
    have hok := stt_ok (r := u.r) (u := cuS u) (sc := pLe u b) hu t ht.2
    have hcB := S_le (p := cAt u.r (cuS u) (pLe u b)) (a := 0) (b := 1000000) (k := t) fun j hj => cAt_le (stt_ok (r := u.r) (u := cuS u) (sc := pLe u b) hu j (fst_of fun z hz => fst_zero ht.2 z (by omega)))
    have hcA := cAt_le hok
    conv => whnf
    repeat' (first
      | (refine NilG.mk fun bn hbn hbx => ?_; conv => whnf)
      | (refine Both.mk ?_ ?_ <;> conv => whnf)
      | ((first | (refine MkG.box 1 rfl rfl rfl (by decide) ?_) | (refine MkG.box 2 rfl rfl rfl (by decide) ?_) | (refine MkG.box 3 rfl rfl rfl (by decide) ?_) | (refine MkG.row ?_)); conv => whnf)
      | exact trivial
      | (refine Br.mk (fun hb => ?_) (fun hb => ?_) <;> (first | (exfalso; revert hb; decide) | ((try simp only [BL] at hb) <;> (try simp only [DL] at hb) <;> conv => whnf)))
      | (refine And.intro ?_ ?_; (focus (first | exact id | exact rfl | exact trivial | (intro hg; first | exact hg | exact rfl | (simp; done) | (simp at hg ⊢; assumption)) | omega | decide | exact is2_c _ _ _ | exact is1_c _ _ | exact isS_c _ _ | exact isB_c _ _ | exact Nat.le_refl _ | assumption | exact mulLe (by decide) (by omega) | exact mulLe2 (by decide) (by omega) (by omega) | (intros; simp only [BL] at *; omega) | (intros; (try simp only [BL] at *); (try simp only [DL] at *); omega) | (intros; simp only [BL] at *; rw [wr_id (by omega) (by omega)]; omega) | (intro h1 h2; exact Bool.and_eq_true_iff.2 ⟨h1, h2⟩) | exact hok | (intros; simp_all; done))); conv => whnf)
      | (refine Or.inr (And.intro rfl ?_); first | (refine congrArg intV ?_) | (refine congrArg boolV ?_) | (refine tupII ?_ ?_) | (refine tupIII ?_ ?_ ?_) | (refine tupU ?_ ?_ ?_ ?_ ?_) | exact rfl))
    · exfalso
      rename_i h1 h2
      rcases h2 with h2 | h2
      · cases h2
      · exact h2 hb.2
    · have hx : pLe u b t = u.r.le := if_pos (by assumption)
      have he : eAt u.r (cuS u) (pLe u b) t ≠ 0 := by
        show ¬ nOn u.r _ _ _ (pLe u b t) = 0
        rw [hx]
        rcases hb with h | h
        · cases h
        · exact h
      have hno : dgL (pOk u n) (b + 1) = dgL (pOk u n) b := if_neg (by unfold pOk; rw [decide_eq_true_iff]; exact fst_cases ht.2 he (by omega))
      rw [← hno]
      refine ⟨b + 1, [?_, ?_], by omega, by omega, ?_⟩
      rotate_left 2
      refine Sub.of ?_ ?_ ?_
      repeat' (first | (refine And.intro ?_ ?_) | exact trivial | exact fun _ _ _ => hsc _ _ | (exact congrArg intV (by first | with_reducible rfl | with_reducible assumption)) | exact (rfl : AV.idsLt _ _ = true) | exact (rfl : _ = AV.ren _ (.own _)) | exact (rfl : _ = AV.ren _ (.fn _ _)) | exact (rfl : _ = AV.ren _ (.gh _)) | (exact congrArg intV (by assumption)) | (refine congrArg intV ((wr_id (by omega) (by omega)).trans (by omega))) | exact rfl | (simp only [Int.toNat_natCast, Int.toNat_zero, Nat.sub_zero, Nat.zero_add]; first | exact rfl | done) | exact all0 | exact fun h => Bool.noConfusion h | exact fun _ _ _ _ => rfl | omega)
    · have hx : pLe u b t = u.r.le := if_pos (by assumption)
      have he : eAt u.r (cuS u) (pLe u b) t = 0 := by
        show nOn u.r _ _ _ (pLe u b t) = 0
        rw [hx]
        exact hb.2
      have ec : IntKind.i64.wrap (S (cAt u.r (cuS u) (pLe u b)) t + nC u.r (stt u.r (cuS u) (pLe u b) t).on (stt u.r (cuS u) (pLe u b) t).si (stt u.r (cuS u) (pLe u b) t).po u.r.le) = S (cAt u.r (cuS u) (pLe u b)) (t + 1) := by
        rw [← hx]
        exact wr_id (by show -9223372036854775808 ≤ S (cAt u.r (cuS u) (pLe u b)) t + cAt u.r (cuS u) (pLe u b) t; omega) (by show S (cAt u.r (cuS u) (pLe u b)) t + cAt u.r (cuS u) (pLe u b) t ≤ 9223372036854775807; omega)
      have e9 : boolV (true && nOn u.r (stt u.r (cuS u) (pLe u b) t).on (stt u.r (cuS u) (pLe u b) t).si (stt u.r (cuS u) (pLe u b) t).po u.r.le == 0) = boolV true := by
        rw [show nOn u.r (stt u.r (cuS u) (pLe u b) t).on (stt u.r (cuS u) (pLe u b) t).si (stt u.r (cuS u) (pLe u b) t).po u.r.le = 0 from hb.2]
        rfl
      have e7 : [boolV (nB u.r (stt u.r (cuS u) (pLe u b) t).on (stt u.r (cuS u) (pLe u b) t).si (stt u.r (cuS u) (pLe u b) t).po u.r.le), intV (nS u.r (stt u.r (cuS u) (pLe u b) t).on (stt u.r (cuS u) (pLe u b) t).si (stt u.r (cuS u) (pLe u b) t).po u.r.le), intV (nP u.r (stt u.r (cuS u) (pLe u b) t).on (stt u.r (cuS u) (pLe u b) t).si (stt u.r (cuS u) (pLe u b) t).po u.r.le)] =
          [boolV (stt u.r (cuS u) (pLe u b) (t + 1)).on, intV (stt u.r (cuS u) (pLe u b) (t + 1)).si, intV (stt u.r (cuS u) (pLe u b) (t + 1)).po] := by
        rw [← hx]
        rfl
      refine ⟨t + 1, [?_, ?_, ?_, ?_], ⟨by omega, fst_next ht.2 he⟩, by omega, ?_⟩
      rotate_left 4
      refine Sub.of ?_ ?_ ?_
      repeat' (first | (first | exact e9 | exact e7) | (refine And.intro ?_ ?_) | exact trivial | exact fun _ _ _ => hsc _ _ | (exact congrArg intV (by first | with_reducible rfl | with_reducible assumption)) | exact (rfl : AV.idsLt _ _ = true) | exact (rfl : _ = AV.ren _ (.own _)) | exact (rfl : _ = AV.ren _ (.fn _ _)) | exact (rfl : _ = AV.ren _ (.gh _)) | (exact congrArg intV (by assumption)) | (refine congrArg intV ((wr_id (by omega) (by omega)).trans (by omega))) | exact rfl | (simp only [Int.toNat_natCast, Int.toNat_zero, Nat.sub_zero, Nat.zero_add]; first | exact rfl | done) | exact all0 | exact fun h => Bool.noConfusion h | exact fun _ _ _ _ => rfl | omega)
      intro aq haq bq hbq
      by_cases hltq : aq < t
      · exact if_pos hltq
      · obtain rfl : aq = t := by omega
        refine (if_neg hltq).trans ?_
        rw [Nat.sub_self]
        revert bq hbq
        refine all1 rfl
    · exfalso
      rename_i h1 h2
      rcases h2 with h2 | h2
      · cases h2
      · exact h2 hb.2
    · have hx : pLe u b t = -1 := if_neg (by assumption)
      have he : eAt u.r (cuS u) (pLe u b) t ≠ 0 := by
        show ¬ nOn u.r _ _ _ (pLe u b t) = 0
        rw [hx]
        rcases hb with h | h
        · cases h
        · exact h
      have hno : dgL (pOk u n) (b + 1) = dgL (pOk u n) b := if_neg (by unfold pOk; rw [decide_eq_true_iff]; exact fst_cases ht.2 he (by omega))
      rw [← hno]
      refine ⟨b + 1, [?_, ?_], by omega, by omega, ?_⟩
      rotate_left 2
      refine Sub.of ?_ ?_ ?_
      repeat' (first | (refine And.intro ?_ ?_) | exact trivial | exact fun _ _ _ => hsc _ _ | (exact congrArg intV (by first | with_reducible rfl | with_reducible assumption)) | exact (rfl : AV.idsLt _ _ = true) | exact (rfl : _ = AV.ren _ (.own _)) | exact (rfl : _ = AV.ren _ (.fn _ _)) | exact (rfl : _ = AV.ren _ (.gh _)) | (exact congrArg intV (by assumption)) | (refine congrArg intV ((wr_id (by omega) (by omega)).trans (by omega))) | exact rfl | (simp only [Int.toNat_natCast, Int.toNat_zero, Nat.sub_zero, Nat.zero_add]; first | exact rfl | done) | exact all0 | exact fun h => Bool.noConfusion h | exact fun _ _ _ _ => rfl | omega)
    · have hx : pLe u b t = -1 := if_neg (by assumption)
      have he : eAt u.r (cuS u) (pLe u b) t = 0 := by
        show nOn u.r _ _ _ (pLe u b t) = 0
        rw [hx]
        exact hb.2
      have ec : IntKind.i64.wrap (S (cAt u.r (cuS u) (pLe u b)) t + nC u.r (stt u.r (cuS u) (pLe u b) t).on (stt u.r (cuS u) (pLe u b) t).si (stt u.r (cuS u) (pLe u b) t).po (-1)) = S (cAt u.r (cuS u) (pLe u b)) (t + 1) := by
        rw [← hx]
        exact wr_id (by show -9223372036854775808 ≤ S (cAt u.r (cuS u) (pLe u b)) t + cAt u.r (cuS u) (pLe u b) t; omega) (by show S (cAt u.r (cuS u) (pLe u b)) t + cAt u.r (cuS u) (pLe u b) t ≤ 9223372036854775807; omega)
      have e9 : boolV (true && nOn u.r (stt u.r (cuS u) (pLe u b) t).on (stt u.r (cuS u) (pLe u b) t).si (stt u.r (cuS u) (pLe u b) t).po (-1) == 0) = boolV true := by
        rw [show nOn u.r (stt u.r (cuS u) (pLe u b) t).on (stt u.r (cuS u) (pLe u b) t).si (stt u.r (cuS u) (pLe u b) t).po (-1) = 0 from hb.2]
        rfl
      have e7 : [boolV (nB u.r (stt u.r (cuS u) (pLe u b) t).on (stt u.r (cuS u) (pLe u b) t).si (stt u.r (cuS u) (pLe u b) t).po (-1)), intV (nS u.r (stt u.r (cuS u) (pLe u b) t).on (stt u.r (cuS u) (pLe u b) t).si (stt u.r (cuS u) (pLe u b) t).po (-1)), intV (nP u.r (stt u.r (cuS u) (pLe u b) t).on (stt u.r (cuS u) (pLe u b) t).si (stt u.r (cuS u) (pLe u b) t).po (-1))] =
          [boolV (stt u.r (cuS u) (pLe u b) (t + 1)).on, intV (stt u.r (cuS u) (pLe u b) (t + 1)).si, intV (stt u.r (cuS u) (pLe u b) (t + 1)).po] := by
        rw [← hx]
        rfl
      refine ⟨t + 1, [?_, ?_, ?_, ?_], ⟨by omega, fst_next ht.2 he⟩, by omega, ?_⟩
      rotate_left 4
      refine Sub.of ?_ ?_ ?_
      repeat' (first | (first | exact e9 | exact e7) | (refine And.intro ?_ ?_) | exact trivial | exact fun _ _ _ => hsc _ _ | (exact congrArg intV (by first | with_reducible rfl | with_reducible assumption)) | exact (rfl : AV.idsLt _ _ = true) | exact (rfl : _ = AV.ren _ (.own _)) | exact (rfl : _ = AV.ren _ (.fn _ _)) | exact (rfl : _ = AV.ren _ (.gh _)) | (exact congrArg intV (by assumption)) | (refine congrArg intV ((wr_id (by omega) (by omega)).trans (by omega))) | exact rfl | (simp only [Int.toNat_natCast, Int.toNat_zero, Nat.sub_zero, Nat.zero_add]; first | exact rfl | done) | exact all0 | exact fun h => Bool.noConfusion h | exact fun _ _ _ _ => rfl | omega)
      intro aq haq bq hbq
      by_cases hltq : aq < t
      · exact if_pos hltq
      · obtain rfl : aq = t := by omega
        refine (if_neg hltq).trans ?_
        rw [Nat.sub_self]
        revert bq hbq
        refine all1 rfl
    · obtain rfl : t = n := by omega
      have hlen := dgL_len (pOk u t) b
      have hno : dgL (pOk u t) (b + 1) = dgL (pOk u t) b ++ [b] := if_pos (decide_eq_true ht.2)
      have e5 : (dgL (pOk u t) b).length + 1 = (dgL (pOk u t) (b + 1)).length := by rw [hno]; simp
      refine And.intro (show ((dgL (pOk u t) b).length + 1) * 24 ≤ 140737488355328 by omega) ?_
      conv => whnf
      repeat' (first
        | (refine NilG.mk fun bn hbn hbx => ?_; conv => whnf)
        | (refine Both.mk ?_ ?_ <;> conv => whnf)
        | ((first | (refine MkG.box 1 rfl rfl rfl (by decide) ?_) | (refine MkG.box 2 rfl rfl rfl (by decide) ?_) | (refine MkG.box 3 rfl rfl rfl (by decide) ?_) | (refine MkG.row ?_)); conv => whnf)
        | exact trivial
        | (refine Br.mk (fun hb => ?_) (fun hb => ?_) <;> (first | (exfalso; revert hb; decide) | ((try simp only [BL] at hb) <;> (try simp only [DL] at hb) <;> conv => whnf)))
        | (refine And.intro ?_ ?_; (focus (first | exact id | exact rfl | exact trivial | (intro hg; first | exact hg | exact rfl | (simp; done) | (simp at hg ⊢; assumption)) | omega | decide | exact is2_c _ _ _ | exact is1_c _ _ | exact isS_c _ _ | exact isB_c _ _ | exact Nat.le_refl _ | assumption | exact mulLe (by decide) (by omega) | exact mulLe2 (by decide) (by omega) (by omega) | (intros; simp only [BL] at *; omega) | (intros; (try simp only [BL] at *); (try simp only [DL] at *); omega) | (intros; simp only [BL] at *; rw [wr_id (by omega) (by omega)]; omega) | (intro h1 h2; exact Bool.and_eq_true_iff.2 ⟨h1, h2⟩) | (intros; simp_all; done))); conv => whnf)
        | (refine Or.inr (And.intro rfl ?_); first | (refine congrArg intV ?_) | (refine congrArg boolV ?_) | (refine tupII ?_ ?_) | (refine tupIII ?_ ?_ ?_) | (refine tupU ?_ ?_ ?_ ?_ ?_) | exact rfl))
      refine ⟨b + 1, [?_, ?_], by omega, by omega, ?_⟩
      rotate_left 2
      refine Sub.of ?_ ?_ ?_
      repeat' (first | (refine And.intro ?_ ?_) | exact trivial | exact fun _ _ _ => hsc _ _ | (exact congrArg intV (by first | with_reducible rfl | with_reducible assumption)) | exact (rfl : AV.idsLt _ _ = true) | exact (rfl : _ = AV.ren _ (.own _)) | exact (rfl : _ = AV.ren _ (.fn _ _)) | exact (rfl : _ = AV.ren _ (.gh _)) | (exact congrArg intV (by assumption)) | (refine congrArg intV ((wr_id (by omega) (by omega)).trans (by omega))) | exact rfl | (simp only [Int.toNat_natCast, Int.toNat_zero, Nat.sub_zero, Nat.zero_add]; first | exact rfl | done) | exact all0 | exact fun h => Bool.noConfusion h | exact fun _ _ _ _ => rfl | omega)
      intro a ha z hz
      have hz : z < 1 := hz
      obtain rfl : z = 0 := by omega
      have hgd : ∀ i, i < (dgL (pOk u t) b).length → (dgL (pOk u t) b ++ [b]).getD i 0 = (dgL (pOk u t) b).getD i 0 := fun i hi => by rw [List.getD_eq_getElem?_getD, List.getElem?_append_left hi, ← List.getD_eq_getElem?_getD]
      have hgl : (dgL (pOk u t) b ++ [b]).getD (dgL (pOk u t) b).length 0 = b := by
        rw [List.getD_eq_getElem?_getD, List.getElem?_append_right (Nat.le_refl _), Nat.sub_self]
        rfl
      rw [hno]
      by_cases h : a < (dgL (pOk u t) b).length
      · refine (if_pos h).trans ?_
        show L.sl 1 (t + 1) (patC u t ((dgL (pOk u t) b).getD a 0)) = L.sl 1 (t + 1) (patC u t ((dgL (pOk u t) b ++ [b]).getD a 0))
        rw [hgd a h]
      · obtain rfl : a = (dgL (pOk u t) b).length := by omega
        refine (if_neg h).trans ?_
        rw [Nat.sub_self]
        show _ = L.sl 1 (t + 1) (patC u t ((dgL (pOk u t) b ++ [b]).getD (dgL (pOk u t) b).length 0))
        rw [hgl]
        rfl
  · obtain rfl : b = 2 ^ n := by omega
    exact .inr ⟨rfl, rfl⟩
theorem cuE_all {u : CuR} (h : cuE u = 0) : staE u.r u.on u.si u.po = 0 ∧ okR u.r ∧ offE u.s u.m u.p u.q = 0 ∧ okOff u.m u.p u.q ∧ S u.p u.m = u.r.mo ∧ u.r.mo ≤ u.r.up ∧ u.r.mo ≤ u.r.dn ∧ (u.on = true → u.r.le ≤ u.po ∧ u.po ≤ u.r.mo) := by
  unfold cuE at h
  split at h
  · rename_i hh; exact absurd h hh
  · rename_i h0
    have h0 : staE u.r u.on u.si u.po = 0 := by simpa using h0
    split at h
    · rename_i hh; exact absurd h hh
    · rename_i h1
      have h1 : offE u.s u.m u.p u.q = 0 := by simpa using h1
      split at h
      · cases h
      · rename_i h2
        split at h
        · cases h
        · rename_i h3
          obtain ⟨hk, _, _, hp, _⟩ := staE_zero h0
          exact ⟨h0, hk, h1, (offE_zero h1).2, by omega, by omega, by omega, hp⟩
/-- the power of a period that is on; what it earns; what a pattern earns -/
def dP (u : CuR) (x : Nat → Int) (t : Nat) : Int := max (S (SP1 u.p u.q (x t)) u.m) u.r.le
def dG (u : CuR) (x : Nat → Int) (t : Nat) : Int := x t * dP u x t - S (ct u.p u.q (dP u x t)) u.m
def dV (u : CuR) (x : Nat → Int) (n b : Nat) : Int := S (fun t => if bt b t = 1 then dG u x t else 0) n - pCo u n b
section
variable {u : CuR}
theorem dP_b (h : cuE u = 0) (x : Nat → Int) (t : Nat) : u.r.le ≤ dP u x t ∧ dP u x t ≤ u.r.mo := by
  obtain ⟨_, hk, _, ho, hs, _⟩ := cuE_all h
  obtain ⟨a, ha, _, e⟩ := sup_cut ho (x t)
  unfold okR at hk
  unfold dP
  rw [e]
  have : S u.p a ≤ S u.p u.m := S_mono (fun z hz => by have := (ho.2.1 z hz).1; omega) ha
  omega
theorem dG_b (h : cuE u = 0) (x : Nat → Int) {t : Nat} (hx : -2000000 ≤ x t ∧ x t ≤ 2000000) : -2000000000000 ≤ dG u x t ∧ dG u x t ≤ 2000000000000 := by
  obtain ⟨_, hk, _, ho, hs, _⟩ := cuE_all h
  have h1 := dP_b h x t
  unfold okR at hk
  have h2 := mulB (a := dP u x t) (b := x t) (A := 100000) (B := 2000000) (by omega) (by omega) (by omega) (by omega) (by omega)
  have h3 := C_le ho (dP u x t) (Nat.le_refl _)
  rw [Int.mul_comm (dP u x t) (x t)] at h2
  unfold dG
  omega
/-- a run of a pattern at its best powers has the errors and the costs of the pattern -/
theorem dRun (h : cuE u = 0) (x : Nat → Int) (n b : Nat) (hn : n ≤ 24) : (runE u.r (cuS u) n (pw (dP u x) b) = 0 ↔ pOk u n b = true) ∧ S (cAt u.r (cuS u) (pw (dP u x) b)) n = pCo u n b := by
  obtain ⟨h0, hk, _, ho, hs, hup, hdn, hp⟩ := cuE_all h
  have hk' := hk
  unfold okR at hk'
  have hsim := run_sim (r := u.r) (u := cuS u) (sc := pw (dP u x) b) (sc' := pLe u b) hk hup hdn hp fun k => by
    unfold pLe pw
    have := dP_b h x k
    by_cases hb : bt b k = 1
    · rw [if_pos hb, if_pos hb]; (try dsimp only); omega
    · rw [if_neg hb, if_neg hb]; (try dsimp only); omega
  have e1 : runE u.r (cuS u) n (pw (dP u x) b) = fst (eAt u.r (cuS u) (pLe u b)) n := by
    unfold runE
    rw [if_neg (fun h => h h0), if_neg (by omega)]
    exact fst_congr fun k _ => (hsim k).2.2.2.2.1
  rw [e1]
  refine ⟨?_, S_congr fun k _ => (hsim k).2.2.2.2.2⟩
  unfold pOk
  rw [decide_eq_true_iff]
theorem pCo_b (hu : staE u.r u.on u.si u.po = 0) {n b : Nat} (ho : pOk u n b = true) : 0 ≤ pCo u n b ∧ pCo u n b ≤ 1000000 * n := by
  have ho : fst (eAt u.r (cuS u) (pLe u b)) n = 0 := of_decide_eq_true ho
  have := S_le (p := cAt u.r (cuS u) (pLe u b)) (a := 0) (b := 1000000) (k := n) fun j hj => cAt_le (stt_ok (r := u.r) (u := cuS u) (sc := pLe u b) hu j (fst_of fun z hz => fst_zero ho z (by omega)))
  unfold pCo
  omega
end
def gamD2 : Gam := fun f => match f with
  | 88 => some (sOi (fun s n _ _ _ => s.size ≤ maxLen ∧ n ≤ maxLen) fun s n p q t => .tup [intV (if offPE s n p q t = 0 then S (SP1 p q t) n else 0), intV (if offPE s n p q t = 0 then S (SP2 p q t) n else 0), intV (offPE s n p q t)])
  | 68 => some (sOi (fun s n _ _ _ => s.size ≤ maxLen ∧ n ≤ maxLen) fun s n p q x => .tup [intV (if offXE s n p q x = 0 then S (ct p q x) n else 0), intV (offXE s n p q x)])
  | _ => none
theorem gamD2_ok : GOk Try.prog gamD2 := fun f g h => by
  unfold gamD2 at h
  split at h
  · injection h with h; subst h; exact sOi_ok fun s n p q x hp => offSupply s n p q x hp.1 hp.2
  · injection h with h; subst h; exact sOi_ok fun s n p q x hp => offCost s n p q x hp.1 hp.2
  · cases h
def ordDS : Ord := fun id => if id = 1 then some (.go 0 (.go 1 (.go 3 (.go 4 (.fork (.alt 2 (.go 6 (.go 5 (.go 7 (.done)))) (.alt 5 (.go 2 (.go 6 (.go 7 (.done)))) (.none)))))))) else none
/-- the schedule of the first best one of the first b patterns -/
def bestF (u : CuR) (x : Nat → Int) (n b : Nat) : Nat → Nat → L := if (dgF (pOk u n) (dV u x n) b).2 then c1 (fun k => if k < n then pw (dP u x) (dgI (pOk u n) (dV u x n) b) k else 0) else fun _ _ => .v undef
/-- what single returns: the first best pattern -/
def sgK (u : CuR) (x : Nat → Int) (n : Nat) (obs : List OB) (v : AV) : Prop :=
  obs = [] ∧ v = .tup [.c (.sl 1 (if (dgF (pOk u n) (dV u x n) (2 ^ n)).2 then n else 0) (bestF u x n (2 ^ n))), intV (dgF (pOk u n) (dV u x n) (2 ^ n)).1]
set_option maxHeartbeats 1000000 in
theorem single (u : CuR) (x : Nat → Int) (n : Nat) (hn : n ≤ 8) (hu : cuE u = 0) (hz : cuZ u) (hx : ∀ k, k < n → -2000000 ≤ x k ∧ x k ≤ 2000000) : Fn Try.prog 54 [cuV u, .c (.sl 1 n (c1 x))] (sgK u x n) := by
  refine fn_of_wpx (O := ordDS) tab_ok gamD2_ok mixed Try.func54 (by kernel_rfl) rfl rfl rfl (by simp [Try.ntmps54]) (by kernel_rfl) ?_
  obtain ⟨hp2, hp64⟩ := two_pow n hn
  obtain ⟨v0, v1, v2, v3, v4, v5, v6, v7⟩ := cuE_all hu
  have hdP := dP_b hu x
  conv => whnf
  repeat' (first
    | (refine NilG.mk fun bn hbn hbx => ?_; conv => whnf)
    | (refine Both.mk ?_ ?_ <;> conv => whnf)
    | ((first | (refine MkG.box 1 rfl rfl rfl (by decide) ?_) | (refine MkG.box 2 rfl rfl rfl (by decide) ?_) | (refine MkG.box 3 rfl rfl rfl (by decide) ?_) | (refine MkG.row ?_)); conv => whnf)
    | exact trivial
    | (refine Br.mk (fun hb => ?_) (fun hb => ?_) <;> (first | (exfalso; revert hb; decide) | ((try simp only [BL] at hb) <;> (try simp only [DL] at hb) <;> conv => whnf)))
    | (refine And.intro ?_ ?_; (focus (first | exact id | exact rfl | exact trivial | (intro hg; first | exact hg | exact rfl | (simp; done) | (simp at hg ⊢; assumption)) | omega | decide | exact is2_c _ _ _ | exact is1_c _ _ | exact isS_c _ _ | exact isB_c _ _ | exact Nat.le_refl _ | assumption | exact mulLe (by decide) (by omega) | exact mulLe2 (by decide) (by omega) (by omega) | (intros; simp only [BL] at *; omega) | (intros; (try simp only [BL] at *); (try simp only [DL] at *); omega) | (intros; simp only [BL] at *; rw [wr_id (by omega) (by omega)]; omega) | (intro h1 h2; exact Bool.and_eq_true_iff.2 ⟨h1, h2⟩) | (intros; simp_all; done))); conv => whnf)
    | (refine Or.inr (And.intro rfl ?_); first | (refine congrArg intV ?_) | (refine congrArg boolV ?_) | (refine tupII ?_ ?_) | (refine tupIII ?_ ?_ ?_) | (refine tupU ?_ ?_ ?_ ?_ ?_) | exact rfl))
  iterate 2
    · refine sem_loop tab_ok gamD2_ok mixed (by kernel_rfl) (O := ordDS) (fun i : Nat => ⟨[(1, .c (.sl 1 n (c1 x))), (2, .lp 0 0), (6, .own 1), (7, .own 2), (31, .c (.sl 1 n (c1 x))), (32, intV n), (33, intV i)], [.box [strV u.r.nm, intV u.r.le, intV u.r.mo, intV u.r.up, intV u.r.dn, intV u.r.mi, intV u.r.mf, intV u.r.st, strV u.s, .c (.sl 2 u.m (c2 u.p u.q)), boolV u.on, intV u.si, intV u.po], .row 3 1 n false (c1 fun k => if k < i then dP u x k else 0), .row 3 1 n false (c1 fun k => if k < i then dG u x k else 0)]⟩) (fun i => i ≤ n) (fun i => n - i) ⟨0, [?_, ?_, ?_], Nat.zero_le _, ?_⟩ fun i hi => ?_
      rotate_left 3
      · refine Sub.of ?_ ?_ ?_
        repeat' (first | (refine And.intro ?_ ?_) | exact trivial | exact fun _ _ _ => hsc _ _ | (exact congrArg intV (by first | with_reducible rfl | with_reducible assumption)) | exact (rfl : AV.idsLt _ _ = true) | exact (rfl : _ = AV.ren _ (.own _)) | exact (rfl : _ = AV.ren _ (.fn _ _)) | exact (rfl : _ = AV.ren _ (.gh _)) | (exact congrArg intV (by assumption)) | (refine congrArg intV ((wr_id (by omega) (by omega)).trans (by omega))) | exact rfl | (simp only [Int.toNat_natCast, Int.toNat_zero, Nat.sub_zero, Nat.zero_add]; first | exact rfl | done) | exact all0 | exact fun h => Bool.noConfusion h | exact fun _ _ _ _ => rfl | omega)
        · intro a ha c hc
          have hc : c < 1 := hc
          obtain rfl : c = 0 := by omega
          rfl
        · intro a ha c hc
          have hc : c < 1 := hc
          obtain rfl : c = 0 := by omega
          rfl
      conv => whnf
      repeat' (first
        | (refine NilG.mk fun bn hbn hbx => ?_; conv => whnf)
        | (refine Both.mk ?_ ?_ <;> conv => whnf)
        | ((first | (refine MkG.box 1 rfl rfl rfl (by decide) ?_) | (refine MkG.box 2 rfl rfl rfl (by decide) ?_) | (refine MkG.box 3 rfl rfl rfl (by decide) ?_) | (refine MkG.row ?_)); conv => whnf)
        | exact trivial
        | (refine Br.mk (fun hb => ?_) (fun hb => ?_) <;> (first | (exfalso; revert hb; decide) | ((try simp only [BL] at hb) <;> (try simp only [DL] at hb) <;> conv => whnf)))
        | (refine And.intro ?_ ?_; (focus (first | exact id | exact rfl | exact trivial | (intro hg; first | exact hg | exact rfl | (simp; done) | (simp at hg ⊢; assumption)) | omega | decide | exact is2_c _ _ _ | exact is1_c _ _ | exact isS_c _ _ | exact isB_c _ _ | exact Nat.le_refl _ | assumption | exact mulLe (by decide) (by omega) | exact mulLe2 (by decide) (by omega) (by omega) | (intros; simp only [BL] at *; omega) | (intros; (try simp only [BL] at *); (try simp only [DL] at *); omega) | (intros; simp only [BL] at *; rw [wr_id (by omega) (by omega)]; omega) | (intro h1 h2; exact Bool.and_eq_true_iff.2 ⟨h1, h2⟩) | exact ⟨is2_c _ _ _, hz.2.1, hz.2.2⟩ | (intros; simp_all; done))); conv => whnf)
        | (refine Or.inr (And.intro rfl ?_); first | (refine congrArg intV ?_) | (refine congrArg boolV ?_) | (refine tupII ?_ ?_) | (refine tupIII ?_ ?_ ?_) | (refine tupU ?_ ?_ ?_ ?_ ?_) | exact rfl))
      · have hin : i < n := by omega
        have hxi := hx i hin
        have hPE : offPE u.s u.m u.p u.q (x i) = 0 := by
          unfold offPE
          rw [if_neg (fun h => h v2), if_neg (by omega)]
        have hdi := hdP i
        have hXE : offXE u.s u.m u.p u.q (dP u x i) = 0 := by
          unfold offXE
          unfold okR at v1
          rw [if_neg (fun h => h v2), if_neg (by omega)]
        have eP : max (if offPE u.s u.m u.p u.q (x i) = 0 then S (SP1 u.p u.q (x i)) u.m else 0) u.r.le = dP u x i := by rw [if_pos hPE]; rfl
        dsimp only
        rw [if_pos rfl]
        conv => whnf
        repeat' (first
          | (refine NilG.mk fun bn hbn hbx => ?_; conv => whnf)
          | (refine Both.mk ?_ ?_ <;> conv => whnf)
          | ((first | (refine MkG.box 1 rfl rfl rfl (by decide) ?_) | (refine MkG.box 2 rfl rfl rfl (by decide) ?_) | (refine MkG.box 3 rfl rfl rfl (by decide) ?_) | (refine MkG.row ?_)); conv => whnf)
          | exact trivial
          | (refine Br.mk (fun hb => ?_) (fun hb => ?_) <;> (first | (exfalso; revert hb; decide) | ((try simp only [BL] at hb) <;> (try simp only [DL] at hb) <;> conv => whnf)))
          | (refine And.intro ?_ ?_; (focus (first | exact id | exact rfl | exact trivial | (intro hg; first | exact hg | exact rfl | (simp; done) | (simp at hg ⊢; assumption)) | omega | decide | exact is2_c _ _ _ | exact is1_c _ _ | exact isS_c _ _ | exact isB_c _ _ | exact Nat.le_refl _ | assumption | exact mulLe (by decide) (by omega) | exact mulLe2 (by decide) (by omega) (by omega) | (intros; simp only [BL] at *; omega) | (intros; (try simp only [BL] at *); (try simp only [DL] at *); omega) | (intros; simp only [BL] at *; rw [wr_id (by omega) (by omega)]; omega) | (intro h1 h2; exact Bool.and_eq_true_iff.2 ⟨h1, h2⟩) | exact ⟨is2_c _ _ _, hz.2.1, hz.2.2⟩ | (intros; simp_all; done))); conv => whnf)
          | (refine Or.inr (And.intro rfl ?_); first | (refine congrArg intV ?_) | (refine congrArg boolV ?_) | (refine tupII ?_ ?_) | (refine tupIII ?_ ?_ ?_) | (refine tupU ?_ ?_ ?_ ?_ ?_) | exact rfl))
        dsimp only
        rw [if_pos rfl]
        conv => whnf
        repeat' (first
          | (refine NilG.mk fun bn hbn hbx => ?_; conv => whnf)
          | (refine Both.mk ?_ ?_ <;> conv => whnf)
          | ((first | (refine MkG.box 1 rfl rfl rfl (by decide) ?_) | (refine MkG.box 2 rfl rfl rfl (by decide) ?_) | (refine MkG.box 3 rfl rfl rfl (by decide) ?_) | (refine MkG.row ?_)); conv => whnf)
          | exact trivial
          | (refine Br.mk (fun hb => ?_) (fun hb => ?_) <;> (first | (exfalso; revert hb; decide) | ((try simp only [BL] at hb) <;> (try simp only [DL] at hb) <;> conv => whnf)))
          | (refine And.intro ?_ ?_; (focus (first | exact id | exact rfl | exact trivial | (intro hg; first | exact hg | exact rfl | (simp; done) | (simp at hg ⊢; assumption)) | omega | decide | exact is2_c _ _ _ | exact is1_c _ _ | exact isS_c _ _ | exact isB_c _ _ | exact Nat.le_refl _ | assumption | exact mulLe (by decide) (by omega) | exact mulLe2 (by decide) (by omega) (by omega) | (intros; simp only [BL] at *; omega) | (intros; (try simp only [BL] at *); (try simp only [DL] at *); omega) | (intros; simp only [BL] at *; rw [wr_id (by omega) (by omega)]; omega) | (intro h1 h2; exact Bool.and_eq_true_iff.2 ⟨h1, h2⟩) | (intros; simp_all; done))); conv => whnf)
          | (refine Or.inr (And.intro rfl ?_); first | (refine congrArg intV ?_) | (refine congrArg boolV ?_) | (refine tupII ?_ ?_) | (refine tupIII ?_ ?_ ?_) | (refine tupU ?_ ?_ ?_ ?_ ?_) | exact rfl))
        have hC := C_le v3 (dP u x i) (Nat.le_refl _)
        have hGb := dG_b hu x hxi
        have hM : -200000000000 ≤ x i * dP u x i ∧ x i * dP u x i ≤ 200000000000 := by
          unfold okR at v1
          have := mulB (a := dP u x i) (b := x i) (A := 100000) (B := 2000000) (by omega) (by omega) (by omega) (by omega) (by omega)
          rw [Int.mul_comm (dP u x i) (x i)] at this
          omega
        refine ⟨i + 1, [?_, ?_, ?_], by omega, by omega, ?_⟩
        rotate_left 3
        refine Sub.of ?_ ?_ ?_
        repeat' (first | (refine And.intro ?_ ?_) | exact trivial | exact fun _ _ _ => hsc _ _ | (exact congrArg intV (by first | with_reducible rfl | with_reducible assumption)) | exact (rfl : AV.idsLt _ _ = true) | exact (rfl : _ = AV.ren _ (.own _)) | exact (rfl : _ = AV.ren _ (.fn _ _)) | exact (rfl : _ = AV.ren _ (.gh _)) | (exact congrArg intV (by assumption)) | (refine congrArg intV ((wr_id (by omega) (by omega)).trans (by omega))) | exact rfl | (simp only [Int.toNat_natCast, Int.toNat_zero, Nat.sub_zero, Nat.zero_add]; first | exact rfl | done) | exact all0 | exact fun h => Bool.noConfusion h | exact fun _ _ _ _ => rfl | omega)
        · intro a ha c hc
          obtain rfl : c = 0 := by omega
          show (if a = i then iL (max (if offPE u.s u.m u.p u.q (x i) = 0 then S (SP1 u.p u.q (x i)) u.m else 0) u.r.le) else iL (if a < i then dP u x a else 0)) = iL (if a < i + 1 then dP u x a else 0)
          rw [eP]
          by_cases h : a = i
          · rw [if_pos h, if_pos (show a < i + 1 by omega), h]
          · rw [if_neg h]
            by_cases h2 : a < i
            · rw [if_pos h2, if_pos (show a < i + 1 by omega)]
            · rw [if_neg h2, if_neg (by omega)]
        · intro a ha c hc
          obtain rfl : c = 0 := by omega
          show (if a = i then iL (IntKind.i64.wrap (IntKind.i64.wrap (x i * max (if offPE u.s u.m u.p u.q (x i) = 0 then S (SP1 u.p u.q (x i)) u.m else 0) u.r.le) - if offXE u.s u.m u.p u.q (max (if offPE u.s u.m u.p u.q (x i) = 0 then S (SP1 u.p u.q (x i)) u.m else 0) u.r.le) = 0 then S (ct u.p u.q (max (if offPE u.s u.m u.p u.q (x i) = 0 then S (SP1 u.p u.q (x i)) u.m else 0) u.r.le)) u.m else 0)) else iL (if a < i then dG u x a else 0)) = iL (if a < i + 1 then dG u x a else 0)
          rw [eP, if_pos hXE, wr_id (x := x i * dP u x i) (by omega) (by omega), wr_id (by omega) (by omega)]
          by_cases h : a = i
          · rw [if_pos h, if_pos (show a < i + 1 by omega), h]
            rfl
          · rw [if_neg h]
            by_cases h2 : a < i
            · rw [if_pos h2, if_pos (show a < i + 1 by omega)]
            · rw [if_neg h2, if_neg (by omega)]
      obtain rfl : i = n := by omega
      refine LoopG.nil 15 3 1 rfl ?_
      refine LoopG.frz [3] ?_
      refine sem_loop tab_ok gamD2_ok mixed (by kernel_rfl) (O := ordDS) (fun b : Nat => ⟨[(1, .c (.sl 1 i (c1 x))), (2, .lp 0 0), (6, .own 1), (7, .own 2), (15, .c (.sl 1 (if (dgF (pOk u i) (dV u x i) b).2 then i else 0) (bestF u x i b))), (16, intV (dgF (pOk u i) (dV u x i) b).1), (17, boolV (dgF (pOk u i) (dV u x i) b).2), (78, intV (2 ^ i : Nat)), (79, intV b)], [.box [strV u.r.nm, intV u.r.le, intV u.r.mo, intV u.r.up, intV u.r.dn, intV u.r.mi, intV u.r.mf, intV u.r.st, strV u.s, .c (.sl 2 u.m (c2 u.p u.q)), boolV u.on, intV u.si, intV u.po], .row 3 1 i false (c1 (dP u x)), .row 3 1 i false (c1 (dG u x))]⟩) (fun b => b ≤ 2 ^ i) (fun b => 2 ^ i - b) ⟨0, [?_, ?_, ?_], Nat.zero_le _, ?_⟩ fun b hb0 => ?_
      rotate_left 3
      · refine Sub.of ?_ ?_ ?_
        repeat' (first | (refine And.intro ?_ ?_) | exact trivial | exact fun _ _ _ => hsc _ _ | (exact congrArg intV (by first | with_reducible rfl | with_reducible assumption)) | exact (rfl : AV.idsLt _ _ = true) | exact (rfl : _ = AV.ren _ (.own _)) | exact (rfl : _ = AV.ren _ (.fn _ _)) | exact (rfl : _ = AV.ren _ (.gh _)) | (exact congrArg intV (by assumption)) | (refine congrArg intV ((wr_id (by omega) (by omega)).trans (by omega))) | exact rfl | (simp only [Int.toNat_natCast, Int.toNat_zero, Nat.sub_zero, Nat.zero_add]; first | exact rfl | done) | exact all0 | exact fun h => Bool.noConfusion h | exact fun _ _ _ _ => rfl | omega)
        · intro a ha c hc
          obtain rfl : c = 0 := by omega
          show iL (if a < i then dP u x a else 0) = iL (dP u x a)
          rw [if_pos ha]
        · intro a ha c hc
          obtain rfl : c = 0 := by omega
          show iL (if a < i then dG u x a else 0) = iL (dG u x a)
          rw [if_pos ha]
      conv => whnf
      repeat' (first
        | (refine NilG.mk fun bn hbn hbx => ?_; conv => whnf)
        | (refine Both.mk ?_ ?_ <;> conv => whnf)
        | ((first | (refine MkG.box 1 rfl rfl rfl (by decide) ?_) | (refine MkG.box 2 rfl rfl rfl (by decide) ?_) | (refine MkG.box 3 rfl rfl rfl (by decide) ?_) | (refine MkG.row ?_)); conv => whnf)
        | exact trivial
        | (refine Br.mk (fun hb => ?_) (fun hb => ?_) <;> (first | (exfalso; revert hb; decide) | ((try simp only [BL] at hb) <;> (try simp only [DL] at hb) <;> conv => whnf)))
        | (refine And.intro ?_ ?_; (focus (first | exact id | exact rfl | exact trivial | (intro hg; first | exact hg | exact rfl | (simp; done) | (simp at hg ⊢; assumption)) | omega | decide | exact is2_c _ _ _ | exact is1_c _ _ | exact isS_c _ _ | exact isB_c _ _ | exact Nat.le_refl _ | assumption | exact mulLe (by decide) (by omega) | exact mulLe2 (by decide) (by omega) (by omega) | (intros; simp only [BL] at *; omega) | (intros; (try simp only [BL] at *); (try simp only [DL] at *); omega) | (intros; simp only [BL] at *; rw [wr_id (by omega) (by omega)]; omega) | (intro h1 h2; exact Bool.and_eq_true_iff.2 ⟨h1, h2⟩) | (intros; simp_all; done))); conv => whnf)
        | (refine Or.inr (And.intro rfl ?_); first | (refine congrArg intV ?_) | (refine congrArg boolV ?_) | (refine tupII ?_ ?_) | (refine tupIII ?_ ?_ ?_) | (refine tupU ?_ ?_ ?_ ?_ ?_) | exact rfl))
      · have hbN : b < 2 ^ i := by omega
        refine sem_loop tab_ok gamD2_ok mixed (by kernel_rfl) (O := ordDS) (fun t : Nat => ⟨[(1, .c (.sl 1 i (c1 x))), (2, .lp 0 0), (6, .own 1), (7, .own 2), (15, .c (.sl 1 (if (dgF (pOk u i) (dV u x i) b).2 then i else 0) (bestF u x i b))), (16, intV (dgF (pOk u i) (dV u x i) b).1), (17, boolV (dgF (pOk u i) (dV u x i) b).2), (18, intV b), (19, .own 3), (20, intV (S (fun t => if bt b t = 1 then dG u x t else 0) t)), (78, intV (2 ^ i : Nat)), (79, intV b), (86, intV i), (87, intV t)], [.box [strV u.r.nm, intV u.r.le, intV u.r.mo, intV u.r.up, intV u.r.dn, intV u.r.mi, intV u.r.mf, intV u.r.st, strV u.s, .c (.sl 2 u.m (c2 u.p u.q)), boolV u.on, intV u.si, intV u.po], .row 3 1 i false (c1 (dP u x)), .row 3 1 i false (c1 (dG u x)), .row 3 1 i false (c1 fun k => if k < t then pw (dP u x) b k else 0)]⟩) (fun t => t ≤ i) (fun t => i - t) ⟨0, [?_, ?_, ?_, ?_], Nat.zero_le _, ?_⟩ fun t ht => ?_
        rotate_left 4
        · refine Sub.of ?_ ?_ ?_
          repeat' (first | (refine And.intro ?_ ?_) | exact trivial | exact fun _ _ _ => hsc _ _ | (exact congrArg intV (by first | with_reducible rfl | with_reducible assumption)) | exact (rfl : AV.idsLt _ _ = true) | exact (rfl : _ = AV.ren _ (.own _)) | exact (rfl : _ = AV.ren _ (.fn _ _)) | exact (rfl : _ = AV.ren _ (.gh _)) | (exact congrArg intV (by assumption)) | (refine congrArg intV ((wr_id (by omega) (by omega)).trans (by omega))) | exact rfl | (simp only [Int.toNat_natCast, Int.toNat_zero, Nat.sub_zero, Nat.zero_add]; first | exact rfl | done) | exact all0 | exact fun h => Bool.noConfusion h | exact fun _ _ _ _ => rfl | omega)
          · intro a ha c hc
            have hc : c < 1 := hc
            obtain rfl : c = 0 := by omega
            rfl
        have hSb := fun z (hz : z ≤ i) => S_le (p := fun t => if bt b t = 1 then dG u x t else 0) (a := -2000000000000) (b := 2000000000000) (k := z) fun j hj => by
          have := dG_b hu x (hx j (by omega))
          (try dsimp only)
          split <;> omega
        have hGt := fun h : t < i => dG_b hu x (hx t h)
        conv => whnf
        repeat' (first
          | (refine NilG.mk fun bn hbn hbx => ?_; conv => whnf)
          | (refine Both.mk ?_ ?_ <;> conv => whnf)
          | ((first | (refine MkG.box 1 rfl rfl rfl (by decide) ?_) | (refine MkG.box 2 rfl rfl rfl (by decide) ?_) | (refine MkG.box 3 rfl rfl rfl (by decide) ?_) | (refine MkG.row ?_)); conv => whnf)
          | exact trivial
          | (refine Br.mk (fun hb => ?_) (fun hb => ?_) <;> (first | (exfalso; revert hb; decide) | ((try simp only [BL] at hb) <;> (try simp only [DL] at hb) <;> conv => whnf)))
          | (refine And.intro ?_ ?_; (focus (first | exact id | exact rfl | exact trivial | (intro hg; first | exact hg | exact rfl | (simp; done) | (simp at hg ⊢; assumption)) | omega | decide | exact is2_c _ _ _ | exact is1_c _ _ | exact isS_c _ _ | exact isB_c _ _ | exact Nat.le_refl _ | assumption | exact mulLe (by decide) (by omega) | exact mulLe2 (by decide) (by omega) (by omega) | (intros; simp only [BL] at *; omega) | (intros; (try simp only [BL] at *); (try simp only [DL] at *); omega) | (intros; simp only [BL] at *; rw [wr_id (by omega) (by omega)]; omega) | (intro h1 h2; exact Bool.and_eq_true_iff.2 ⟨h1, h2⟩) | (intros; simp_all; done))); conv => whnf)
          | (refine Or.inr (And.intro rfl ?_); first | (refine congrArg intV ?_) | (refine congrArg boolV ?_) | (refine tupII ?_ ?_) | (refine tupIII ?_ ?_ ?_) | (refine tupU ?_ ?_ ?_ ?_ ?_) | exact rfl))
        · have hti : t < i := by omega
          have hbt : bt b t = 1 := hb
          have h4 := hSb t (by omega)
          have h5 := hGt hti
          have ew : IntKind.i64.wrap (S (fun t => if bt b t = 1 then dG u x t else 0) t + dG u x t) = S (fun t => if bt b t = 1 then dG u x t else 0) (t + 1) := by
            have e : S (fun t => if bt b t = 1 then dG u x t else 0) (t + 1) = S (fun t => if bt b t = 1 then dG u x t else 0) t + dG u x t := by
              show _ + (if bt b t = 1 then dG u x t else 0) = _
              rw [if_pos hbt]
            rw [e]
            exact wr_id (by omega) (by omega)
          refine ⟨t + 1, [?_, ?_, ?_, ?_], by omega, by omega, ?_⟩
          rotate_left 4
          refine Sub.of ?_ ?_ ?_
          repeat' (first | (refine And.intro ?_ ?_) | exact trivial | exact fun _ _ _ => hsc _ _ | (exact congrArg intV (by first | with_reducible rfl | with_reducible assumption)) | exact (rfl : AV.idsLt _ _ = true) | exact (rfl : _ = AV.ren _ (.own _)) | exact (rfl : _ = AV.ren _ (.fn _ _)) | exact (rfl : _ = AV.ren _ (.gh _)) | (exact congrArg intV (by assumption)) | (refine congrArg intV ((wr_id (by omega) (by omega)).trans (by omega))) | exact rfl | (simp only [Int.toNat_natCast, Int.toNat_zero, Nat.sub_zero, Nat.zero_add]; first | exact rfl | done) | exact all0 | exact fun h => Bool.noConfusion h | exact fun _ _ _ _ => rfl | omega)
          intro a ha c hc
          obtain rfl : c = 0 := by omega
          show (if a = t then iL (dP u x t) else if a = t then iL (-1) else iL (if a < t then pw (dP u x) b a else 0)) = iL (if a < t + 1 then pw (dP u x) b a else 0)
          by_cases h : a = t
          · rw [if_pos h, if_pos (show a < t + 1 by omega), h]
            unfold pw
            rw [if_pos hbt]
          · rw [if_neg h, if_neg h]
            by_cases h2 : a < t
            · rw [if_pos h2, if_pos (show a < t + 1 by omega)]
            · rw [if_neg h2, if_neg (by omega)]
        · have hti : t < i := by omega
          have hbt : ¬ bt b t = 1 := hb
          have e : S (fun t => if bt b t = 1 then dG u x t else 0) t = S (fun t => if bt b t = 1 then dG u x t else 0) (t + 1) := by
            show _ = _ + (if bt b t = 1 then dG u x t else 0)
            rw [if_neg hbt]
            omega
          refine ⟨t + 1, [?_, ?_, ?_, ?_], by omega, by omega, ?_⟩
          rotate_left 4
          refine Sub.of ?_ ?_ ?_
          repeat' (first | (refine And.intro ?_ ?_) | exact trivial | exact fun _ _ _ => hsc _ _ | (exact congrArg intV (by first | with_reducible rfl | with_reducible assumption)) | exact (rfl : AV.idsLt _ _ = true) | exact (rfl : _ = AV.ren _ (.own _)) | exact (rfl : _ = AV.ren _ (.fn _ _)) | exact (rfl : _ = AV.ren _ (.gh _)) | (exact congrArg intV (by assumption)) | (refine congrArg intV ((wr_id (by omega) (by omega)).trans (by omega))) | exact rfl | (simp only [Int.toNat_natCast, Int.toNat_zero, Nat.sub_zero, Nat.zero_add]; first | exact rfl | done) | exact all0 | exact fun h => Bool.noConfusion h | exact fun _ _ _ _ => rfl | omega)
          intro a ha c hc
          obtain rfl : c = 0 := by omega
          show (if a = t then iL (-1) else iL (if a < t then pw (dP u x) b a else 0)) = iL (if a < t + 1 then pw (dP u x) b a else 0)
          by_cases h : a = t
          · rw [if_pos h, if_pos (show a < t + 1 by omega), h]
            unfold pw
            rw [if_neg hbt]
          · rw [if_neg h]
            by_cases h2 : a < t
            · rw [if_pos h2, if_pos (show a < t + 1 by omega)]
            · rw [if_neg h2, if_neg (by omega)]
        obtain rfl : t = i := by omega
        obtain ⟨r1, r2⟩ := dRun hu x t b (by omega)
        refine CallG.pre [3] (Fn.mono ((uRun u.r (cuS u) t (pw (dP u x) b) hz.1).le (Le.cons (Le1.refl _) (Le.cons (Le1.refl _) (Le.cons (Le1.sl fun k hk j hj => ?_) Le.nil)))) ?_)
        · obtain rfl : j = 0 := by omega
          show iL (if k < t then pw (dP u x) b k else 0) = iL (pw (dP u x) b k)
          rw [if_pos hk]
        rintro obs r ⟨rfl, hr⟩
        have hstep : dgF (pOk u t) (dV u x t) (b + 1) = if pOk u t b = true ∧ ((dgF (pOk u t) (dV u x t) b).2 = false ∨ dV u x t b > (dgF (pOk u t) (dV u x t) b).1) then (dV u x t b, true) else dgF (pOk u t) (dV u x t) b := rfl
        have hstepI : dgI (pOk u t) (dV u x t) (b + 1) = if pOk u t b = true ∧ ((dgF (pOk u t) (dV u x t) b).2 = false ∨ dV u x t b > (dgF (pOk u t) (dV u x t) b).1) then b else dgI (pOk u t) (dV u x t) b := rfl
        have hun : ¬ (pOk u t b = true ∧ ((dgF (pOk u t) (dV u x t) b).2 = false ∨ dV u x t b > (dgF (pOk u t) (dV u x t) b).1)) → dgF (pOk u t) (dV u x t) b = dgF (pOk u t) (dV u x t) (b + 1) ∧ bestF u x t b = bestF u x t (b + 1) := fun h => by
          have e1 : dgF (pOk u t) (dV u x t) b = dgF (pOk u t) (dV u x t) (b + 1) := by rw [hstep, if_neg h]
          have e2 : dgI (pOk u t) (dV u x t) b = dgI (pOk u t) (dV u x t) (b + 1) := by rw [hstepI, if_neg h]
          refine ⟨e1, ?_⟩
          unfold bestF
          rw [e1, e2]
        rcases hr with ⟨h1, rfl⟩ | ⟨h1, rfl⟩
        · have hno : pOk u t b = false := by
            cases h9 : pOk u t b with
            | true => exact absurd (r1.2 h9) h1
            | false => rfl
          conv => whnf
          repeat' (first
            | (refine NilG.mk fun bn hbn hbx => ?_; conv => whnf)
            | (refine Both.mk ?_ ?_ <;> conv => whnf)
            | ((first | (refine MkG.box 1 rfl rfl rfl (by decide) ?_) | (refine MkG.box 2 rfl rfl rfl (by decide) ?_) | (refine MkG.box 3 rfl rfl rfl (by decide) ?_) | (refine MkG.row ?_)); conv => whnf)
            | exact trivial
            | (refine Br.mk (fun hb => ?_) (fun hb => ?_) <;> (first | (exfalso; revert hb; decide) | ((try simp only [BL] at hb) <;> (try simp only [DL] at hb) <;> conv => whnf)))
            | (refine And.intro ?_ ?_; (focus (first | exact id | exact rfl | exact trivial | (intro hg; first | exact hg | exact rfl | (simp; done) | (simp at hg ⊢; assumption)) | omega | decide | exact is2_c _ _ _ | exact is1_c _ _ | exact isS_c _ _ | exact isB_c _ _ | exact Nat.le_refl _ | assumption | exact mulLe (by decide) (by omega) | exact mulLe2 (by decide) (by omega) (by omega) | (intros; simp only [BL] at *; omega) | (intros; (try simp only [BL] at *); (try simp only [DL] at *); omega) | (intros; simp only [BL] at *; rw [wr_id (by omega) (by omega)]; omega) | (intro h1 h2; exact Bool.and_eq_true_iff.2 ⟨h1, h2⟩) | (intros; simp_all; done))); conv => whnf)
            | (refine Or.inr (And.intro rfl ?_); first | (refine congrArg intV ?_) | (refine congrArg boolV ?_) | (refine tupII ?_ ?_) | (refine tupIII ?_ ?_ ?_) | (refine tupU ?_ ?_ ?_ ?_ ?_) | exact rfl))
          · exact absurd hb.1 h1
          · obtain ⟨e1, e2⟩ := hun (fun h => by rw [hno] at h; cases h.1)
            have e15 : AV.c (L.sl 1 (if (dgF (pOk u t) (dV u x t) b).2 then t else 0) (bestF u x t b)) = AV.c (L.sl 1 (if (dgF (pOk u t) (dV u x t) (b + 1)).2 then t else 0) (bestF u x t (b + 1))) := by rw [e1, e2]
            have e16 : (dgF (pOk u t) (dV u x t) b).1 = (dgF (pOk u t) (dV u x t) (b + 1)).1 := by rw [← e1]
            have e17 : boolV (dgF (pOk u t) (dV u x t) b).2 = boolV (dgF (pOk u t) (dV u x t) (b + 1)).2 := by rw [← e1]
            refine ⟨b + 1, [?_, ?_, ?_], by omega, by omega, ?_⟩
            rotate_left 3
            refine Sub.of ?_ ?_ ?_
            repeat' (first | (first | exact e15 | exact e17) | (refine And.intro ?_ ?_) | exact trivial | exact fun _ _ _ => hsc _ _ | (exact congrArg intV (by first | with_reducible rfl | with_reducible assumption)) | exact (rfl : AV.idsLt _ _ = true) | exact (rfl : _ = AV.ren _ (.own _)) | exact (rfl : _ = AV.ren _ (.fn _ _)) | exact (rfl : _ = AV.ren _ (.gh _)) | (exact congrArg intV (by assumption)) | (refine congrArg intV ((wr_id (by omega) (by omega)).trans (by omega))) | exact rfl | (simp only [Int.toNat_natCast, Int.toNat_zero, Nat.sub_zero, Nat.zero_add]; first | exact rfl | done) | exact all0 | exact fun h => Bool.noConfusion h | exact fun _ _ _ _ => rfl | omega)
        · have hyes : pOk u t b = true := r1.1 h1
          have hco := pCo_b v0 hyes
          have h4 := hSb t (Nat.le_refl _)
          have ev : IntKind.i64.wrap (S (fun t => if bt b t = 1 then dG u x t else 0) t - pCo u t b) = dV u x t b := wr_id (by omega) (by omega)
          rw [r2]
          conv => whnf
          repeat' (first
            | (refine NilG.mk fun bn hbn hbx => ?_; conv => whnf)
            | (refine Both.mk ?_ ?_ <;> conv => whnf)
            | ((first | (refine MkG.box 1 rfl rfl rfl (by decide) ?_) | (refine MkG.box 2 rfl rfl rfl (by decide) ?_) | (refine MkG.box 3 rfl rfl rfl (by decide) ?_) | (refine MkG.row ?_)); conv => whnf)
            | exact trivial
            | (refine Br.mk (fun hb => ?_) (fun hb => ?_) <;> (first | (exfalso; revert hb; decide) | ((try simp only [BL] at hb) <;> (try simp only [DL] at hb) <;> conv => whnf)))
            | (refine And.intro ?_ ?_; (focus (first | exact id | exact rfl | exact trivial | (intro hg; first | exact hg | exact rfl | (simp; done) | (simp at hg ⊢; assumption)) | omega | decide | exact is2_c _ _ _ | exact is1_c _ _ | exact isS_c _ _ | exact isB_c _ _ | exact Nat.le_refl _ | assumption | exact mulLe (by decide) (by omega) | exact mulLe2 (by decide) (by omega) (by omega) | (intros; simp only [BL] at *; omega) | (intros; (try simp only [BL] at *); (try simp only [DL] at *); omega) | (intros; simp only [BL] at *; rw [wr_id (by omega) (by omega)]; omega) | (intro h1 h2; exact Bool.and_eq_true_iff.2 ⟨h1, h2⟩) | (intros; simp_all; done))); conv => whnf)
            | (refine Or.inr (And.intro rfl ?_); first | (refine congrArg intV ?_) | (refine congrArg boolV ?_) | (refine tupII ?_ ?_) | (refine tupIII ?_ ?_ ?_) | (refine tupU ?_ ?_ ?_ ?_ ?_) | exact rfl))
          · have hb2 := hb.2
            rw [ev] at hb2
            have e1 : dgF (pOk u t) (dV u x t) (b + 1) = (dV u x t b, true) := by rw [hstep, if_pos ⟨hyes, hb2⟩]
            have e2 : dgI (pOk u t) (dV u x t) (b + 1) = b := by rw [hstepI, if_pos ⟨hyes, hb2⟩]
            have e15 : AV.c (L.sl 1 t (c1 fun k => if k < t then pw (dP u x) b k else 0)) = AV.c (L.sl 1 (if (dgF (pOk u t) (dV u x t) (b + 1)).2 then t else 0) (bestF u x t (b + 1))) := by
              unfold bestF
              rw [e1, e2]
              rfl
            have e16 : IntKind.i64.wrap (S (fun t => if bt b t = 1 then dG u x t else 0) t - pCo u t b) = (dgF (pOk u t) (dV u x t) (b + 1)).1 := by rw [e1, ev]
            have e17 : boolV true = boolV (dgF (pOk u t) (dV u x t) (b + 1)).2 := by rw [e1]
            refine ⟨b + 1, [?_, ?_, ?_], by omega, by omega, ?_⟩
            rotate_left 3
            refine Sub.of ?_ ?_ ?_
            repeat' (first | (first | exact e15 | exact e17) | (refine And.intro ?_ ?_) | exact trivial | exact fun _ _ _ => hsc _ _ | (exact congrArg intV (by first | with_reducible rfl | with_reducible assumption)) | exact (rfl : AV.idsLt _ _ = true) | exact (rfl : _ = AV.ren _ (.own _)) | exact (rfl : _ = AV.ren _ (.fn _ _)) | exact (rfl : _ = AV.ren _ (.gh _)) | (exact congrArg intV (by assumption)) | (refine congrArg intV ((wr_id (by omega) (by omega)).trans (by omega))) | exact rfl | (simp only [Int.toNat_natCast, Int.toNat_zero, Nat.sub_zero, Nat.zero_add]; first | exact rfl | done) | exact all0 | exact fun h => Bool.noConfusion h | exact fun _ _ _ _ => rfl | omega)
          · obtain ⟨e1, e2⟩ := hun (fun h => by
              rcases hb with hb | hb
              · exact hb trivial
              · rw [ev] at hb
                rcases h.2 with h2 | h2
                · rw [h2] at hb; cases hb.1
                · exact hb.2 h2)
            have e15 : AV.c (L.sl 1 (if (dgF (pOk u t) (dV u x t) b).2 then t else 0) (bestF u x t b)) = AV.c (L.sl 1 (if (dgF (pOk u t) (dV u x t) (b + 1)).2 then t else 0) (bestF u x t (b + 1))) := by rw [e1, e2]
            have e16 : (dgF (pOk u t) (dV u x t) b).1 = (dgF (pOk u t) (dV u x t) (b + 1)).1 := by rw [← e1]
            have e17 : boolV (dgF (pOk u t) (dV u x t) b).2 = boolV (dgF (pOk u t) (dV u x t) (b + 1)).2 := by rw [← e1]
            refine ⟨b + 1, [?_, ?_, ?_], by omega, by omega, ?_⟩
            rotate_left 3
            refine Sub.of ?_ ?_ ?_
            repeat' (first | (first | exact e15 | exact e17) | (refine And.intro ?_ ?_) | exact trivial | exact fun _ _ _ => hsc _ _ | (exact congrArg intV (by first | with_reducible rfl | with_reducible assumption)) | exact (rfl : AV.idsLt _ _ = true) | exact (rfl : _ = AV.ren _ (.own _)) | exact (rfl : _ = AV.ren _ (.fn _ _)) | exact (rfl : _ = AV.ren _ (.gh _)) | (exact congrArg intV (by assumption)) | (refine congrArg intV ((wr_id (by omega) (by omega)).trans (by omega))) | exact rfl | (simp only [Int.toNat_natCast, Int.toNat_zero, Nat.sub_zero, Nat.zero_add]; first | exact rfl | done) | exact all0 | exact fun h => Bool.noConfusion h | exact fun _ _ _ _ => rfl | omega)
      · obtain rfl : b = 2 ^ i := by omega
        exact .inr ⟨rfl, rfl⟩
end Go.Proofs.Ytemfikdogdadnaa
