/-
  AuctionClears holds: Clear returns what the reference clears unit by unit, whatever the input.
-/
import Derived.Test.YtdakikgebfphmaaAucL
import Derived.Test.YtdakikgebfphmaaDspK
namespace Go.Proofs.Ytdakikgebfphmaa
open Go.RowKit Go.ChangeShapes Go.WideShapes

/-- the example -/
def xaA : Nat → AuO := fun k => if k = 0 then ⟨⟨#[65]⟩, true, 10, 8⟩ else ⟨⟨#[66]⟩, false, 10, 5⟩
theorem xaE : aosE 2 xaA = 0 := by
  have h0 : aoE xaA 0 = 0 := by
    unfold aoE
    rw [if_neg (by rw [show nameB (xaA 0).nm = true by rfl]; decide), if_neg (by decide), if_neg (by rw [show dupB (fun k => (xaA k).nm) (xaA 0).nm 0 = false by rfl]; decide)]
  have e1 : dupB (fun k => (xaA k).nm) (xaA 1).nm 1 = false := dup_false fun k hk => by
    obtain rfl : k = 0 := by omega
    unfold sameN xaA
    simp [ByteArray.toList, ByteArray.toList.loop, ByteArray.size, ByteArray.get!]
  have h1 : aoE xaA 1 = 0 := by
    unfold aoE
    rw [if_neg (by rw [show nameB (xaA 1).nm = true by rfl]; decide), if_neg (by decide), if_neg (by rw [e1]; decide)]
  unfold aosE
  rw [if_neg (by decide)]
  simp [fst, h0, h1]
theorem xaEx {π1 π2 : Nat → Nat} {t : Nat} (h : Auc xaA 2 π1 π2) (hall : ∀ u : Nat, u < t → aFit xaA 2 π1 π2 u) (hnf : ¬ aFit xaA 2 π1 π2 t) : t = 10 ∧ aPr xaA 2 π1 π2 t = 6 := by
  obtain ⟨hl1, hl2⟩ := aFit_le h hall
  have n1 : oN (aM xaA true) 2 = 1 := by decide
  have n2 : oN (aM xaA false) 2 = 1 := by decide
  have e1 : π1 0 = 0 := by have := h.s1.lt (k := 0) (by rw [n1]; decide); omega
  have e2 : π2 0 = 0 := by have := h.s2.lt (k := 0) (by rw [n2]; decide); omega
  have a1 : aAll xaA true 2 = 10 := by decide
  have a2 : aAll xaA false 2 = 10 := by decide
  have ht : t = 10 := by
    by_cases hlt : t < 10
    · refine absurd ?_ hnf
      have c1 : bCum (aM xaA true) (aP xaA) 2 π1 1 = 10 := by
        show bCum (aM xaA true) (aP xaA) 2 π1 0 + bSz (aM xaA true) (aP xaA) 2 (π1 0) = 10
        rw [e1]
        rfl
      have c2 : bCum (aM xaA false) (aP xaA) 2 π2 1 = 10 := by
        show bCum (aM xaA false) (aP xaA) 2 π2 0 + bSz (aM xaA false) (aP xaA) 2 (π2 0) = 10
        rw [e2]
        rfl
      have d1 : aHd xaA true 2 π1 t = 0 := hd_eq h.b1 (Nat.zero_le _) (Int.natCast_nonneg t) fun _ => by rw [c1]; omega
      have d2 : aHd xaA false 2 π2 t = 0 := hd_eq h.b2 (Nat.zero_le _) (Int.natCast_nonneg t) fun _ => by rw [c2]; omega
      refine ⟨by rw [d1, n1]; decide, by rw [d2, n2]; decide, ?_⟩
      unfold aKy
      rw [d1, d2, e1, e2]
      decide
    · omega
  refine ⟨ht, ?_⟩
  have hx := fun k (hk : k < 2) => aFl_b h (Int.natCast_nonneg t) hl1 hl2 hk
  have s1 := bX_sum h.b1 (T := t) (Int.natCast_nonneg t) hl1
  have s2 := bX_sum h.b2 (T := t) (Int.natCast_nonneg t) hl2
  have z1 := (aX_b h.ok h.s1 (Int.natCast_nonneg t) hl1 1 (by decide)).2.2 (by decide)
  have z2 := (aX_b h.ok h.s2 (Int.natCast_nonneg t) hl2 0 (by decide)).2.2 (by decide)
  have s1 : 0 + aX xaA true 2 π1 t 0 + aX xaA true 2 π1 t 1 = t := s1
  have s2 : 0 + aX xaA false 2 π2 t 0 + aX xaA false 2 π2 t 1 = t := s2
  have x0 : aFl xaA 2 π1 π2 t 0 = 10 := by
    have := (hx 0 (by decide)).2.2.1 (by decide)
    omega
  have x1 : aFl xaA 2 π1 π2 t 1 = 10 := by
    have := (hx 1 (by decide)).2.2.2 (by decide)
    omega
  have l2 : loA xaA (aFl xaA 2 π1 π2 t) 2 = 5 := by
    simp [loA, aLw, x0, x1, xaA]
    omega
  have h2 : hiA xaA (aFl xaA 2 π1 π2 t) 2 = 8 := by
    simp [hiA, aUp, x0, x1, xaA]
    omega
  unfold aPr
  rw [l2, h2]
  decide
theorem shr1 {x : Int} (h : -4000000 ≤ x ∧ x ≤ 4000000) : shrI .i64 (IntKind.i64.wrap x) 1 = (if x % 2 ≠ 0 ∧ x < 0 then x.tdiv 2 - 1 else x.tdiv 2) := by
  rw [wr_id (by omega) (by omega)]
  show x.fdiv 2 = _
  rw [Int.fdiv_eq_ediv_of_nonneg _ (by decide)]
  by_cases h0 : 0 ≤ x
  · rw [Int.tdiv_eq_ediv_of_nonneg h0]
    split <;> omega
  · have e : x.tdiv 2 = -(-x / 2) := by
      rw [← Int.tdiv_eq_ediv_of_nonneg (show 0 ≤ -x by omega), Int.neg_tdiv, Int.neg_neg]
    rw [e]
    split <;> omega
theorem tdv {x : Int} (h : -4000000 ≤ x ∧ x ≤ 4000000) : -2000000 ≤ x.tdiv 2 ∧ x.tdiv 2 ≤ 2000000 ∧ (x.tmod 2 ≠ 0 ↔ x % 2 ≠ 0) := by
  have hm := Int.tmod_add_mul_tdiv x 2
  by_cases h0 : 0 ≤ x
  · have e := Int.tdiv_eq_ediv_of_nonneg (b := 2) h0
    omega
  · have e : x.tdiv 2 = -(-x / 2) := by
      rw [← Int.tdiv_eq_ediv_of_nonneg (show 0 ≤ -x by omega), Int.neg_tdiv, Int.neg_neg]
    omega
def gamA5 : Gam := fun f => match f with
  | 34 => some sUI
  | _ => none
theorem gamA5_ok : GOk Try.prog gamA5 := fun f g h => by
  unfold gamA5 at h
  split at h
  · injection h with h; subst h
    intro args hs _
    unfold sUI at hs ⊢
    split at hs
    · exact (uSame _ _ _ _ hs.2.2).le (Le.cons (Le1.sl hs.1) (Le.cons (Le1.sl hs.2.1) Le.nil))
    · exact hs.elim
  · cases h
set_option maxHeartbeats 2000000 in
theorem aucLaw (a : Nat → AuO) (n : Nat) (hn : n ≤ maxLen) (hk : ∀ k, k < n → (a k).nm.size ≤ maxLen) :
    Fn1 Try.prog 8 [.c (.sl 4 n (cAo a))] (boolV true) := by
  refine fn_of_wpx (O := lex) tab_ok gamA5_ok mixed Try.func8 (by kernel_rfl) rfl rfl rfl (by simp [Try.ntmps8]) (by kernel_rfl) ?_
  have hn' : n ≤ 9223372036854775807 := hn
  conv => whnf
  repeat' (first
    | (refine NilG.mk fun bn hbn => ?_; conv => whnf)
    | (refine Both.mk ?_ ?_ <;> conv => whnf)
    | exact trivial
    | (refine Br.mk (fun hb => ?_) (fun hb => ?_) <;> (first | (exfalso; revert hb; decide) | ((try simp only [BL] at hb) <;> (try simp only [DL] at hb) <;> conv => whnf)))
    | (refine And.intro ?_ ?_; (focus (first | exact id | exact rfl | exact trivial | (intro hg; first | exact hg | exact rfl | (simp; done) | (simp at hg ⊢; assumption)) | omega | decide | exact is2_c _ _ _ | exact is1_c _ _ | exact isS_c _ _ | exact isB_c _ _ | exact Nat.le_refl _ | assumption | exact mulLe (by decide) (by omega) | exact mulLe2 (by decide) (by omega) (by omega) | (intros; simp only [BL] at *; omega) | (intros; (try simp only [BL] at *); (try simp only [DL] at *); omega) | (intros; simp only [BL] at *; rw [wr_id (by omega) (by omega)]; omega) | (intro h1 h2; exact Bool.and_eq_true_iff.2 ⟨h1, h2⟩) | (intros; simp_all; done))); conv => whnf)
    | (refine Or.inr (And.intro rfl ?_); first | (refine congrArg intV ?_) | (refine congrArg boolV ?_) | (refine tupII ?_ ?_) | (refine tupIII ?_ ?_ ?_) | (refine tupU ?_ ?_ ?_ ?_ ?_) | exact rfl))
  refine CallG.mk (Fn.mono ((aucClear xaA 2 (by decide) (fun k hk => ?_)).le (Le.cons (Le1.l (LLe.sl fun k hk j hj => ?_)) Le.nil)) ?_)
  · match k, hk with
    | 0, _ => exact (by decide)
    | 1, _ => exact (by decide)
  · match k, j, hk, hj with
    | 0, 0, _, _ => exact LLe.of_eq rfl
    | 0, 1, _, _ => exact LLe.of_eq rfl
    | 0, 2, _, _ => exact LLe.of_eq rfl
    | 0, 3, _, _ => exact LLe.of_eq rfl
    | 1, 0, _, _ => exact LLe.of_eq rfl
    | 1, 1, _, _ => exact LLe.of_eq rfl
    | 1, 2, _, _ => exact LLe.of_eq rfl
    | 1, 3, _, _ => exact LLe.of_eq rfl
  rintro obs r ⟨rfl, ⟨h0, rfl⟩ | ⟨h0, π1, π2, t, ha, hall, hnf, rfl⟩⟩
  · exact absurd xaE h0
  obtain ⟨rfl, hpr⟩ := xaEx ha hall hnf
  rw [if_pos (by decide), hpr]
  clear ha hall hnf hpr h0
  conv => whnf
  repeat' (first
    | (refine NilG.mk fun bn hbn => ?_; conv => whnf)
    | (refine Both.mk ?_ ?_ <;> conv => whnf)
    | exact trivial
    | (refine Br.mk (fun hb => ?_) (fun hb => ?_) <;> (first | (exfalso; revert hb; decide) | ((try simp only [BL] at hb) <;> (try simp only [DL] at hb) <;> conv => whnf)))
    | (refine And.intro ?_ ?_; (focus (first | exact id | exact rfl | exact trivial | (intro hg; first | exact hg | exact rfl | (simp; done) | (simp at hg ⊢; assumption)) | omega | decide | exact is2_c _ _ _ | exact is1_c _ _ | exact isS_c _ _ | exact isB_c _ _ | exact Nat.le_refl _ | assumption | exact mulLe (by decide) (by omega) | exact mulLe2 (by decide) (by omega) (by omega) | (intros; simp only [BL] at *; omega) | (intros; (try simp only [BL] at *); (try simp only [DL] at *); omega) | (intros; simp only [BL] at *; rw [wr_id (by omega) (by omega)]; omega) | (intro h1 h2; exact Bool.and_eq_true_iff.2 ⟨h1, h2⟩) | (intros; simp_all; done))); conv => whnf)
    | (refine Or.inr (And.intro rfl ?_); first | (refine congrArg intV ?_) | (refine congrArg boolV ?_) | (refine tupII ?_ ?_) | (refine tupIII ?_ ?_ ?_) | (refine tupU ?_ ?_ ?_ ?_ ?_) | exact rfl))
  refine CallG.mk (Fn.mono (aucClear a n hn hk) ?_)
  rintro obs r ⟨rfl, ⟨h0, rfl⟩ | ⟨h0, π1, π2, t, ha, hall, hnf, rfl⟩⟩
  · conv => whnf
    repeat' (first
      | (refine NilG.mk fun bn hbn => ?_; conv => whnf)
      | (refine Both.mk ?_ ?_ <;> conv => whnf)
      | exact trivial
      | (refine Br.mk (fun hb => ?_) (fun hb => ?_) <;> (first | (exfalso; revert hb; decide) | ((try simp only [BL] at hb) <;> (try simp only [DL] at hb) <;> conv => whnf)))
      | (refine And.intro ?_ ?_; (focus (first | exact id | exact rfl | exact trivial | (intro hg; first | exact hg | exact rfl | (simp; done) | (simp at hg ⊢; assumption)) | omega | decide | exact is2_c _ _ _ | exact is1_c _ _ | exact isS_c _ _ | exact isB_c _ _ | exact Nat.le_refl _ | assumption | exact mulLe (by decide) (by omega) | exact mulLe2 (by decide) (by omega) (by omega) | (intros; simp only [BL] at *; omega) | (intros; (try simp only [BL] at *); (try simp only [DL] at *); omega) | (intros; simp only [BL] at *; rw [wr_id (by omega) (by omega)]; omega) | (intro h1 h2; exact Bool.and_eq_true_iff.2 ⟨h1, h2⟩) | (intros; simp_all; done))); conv => whnf)
      | (refine Or.inr (And.intro rfl ?_); first | (refine congrArg intV ?_) | (refine congrArg boolV ?_) | (refine tupII ?_ ?_) | (refine tupIII ?_ ?_ ?_) | (refine tupU ?_ ?_ ?_ ?_ ?_) | exact rfl))
    refine CallG.mk (Fn.mono (aucErr a n hn hk) ?_)
    rintro obs r ⟨rfl, rfl⟩
    conv => whnf
    repeat' (first
      | (refine NilG.mk fun bn hbn => ?_; conv => whnf)
      | (refine Both.mk ?_ ?_ <;> conv => whnf)
      | exact trivial
      | (refine Br.mk (fun hb => ?_) (fun hb => ?_) <;> (first | (exfalso; revert hb; decide) | ((try simp only [BL] at hb) <;> (try simp only [DL] at hb) <;> conv => whnf)))
      | (refine And.intro ?_ ?_; (focus (first | exact id | exact rfl | exact trivial | (intro hg; first | exact hg | exact rfl | (simp; done) | (simp at hg ⊢; assumption)) | omega | decide | exact is2_c _ _ _ | exact is1_c _ _ | exact isS_c _ _ | exact isB_c _ _ | exact Nat.le_refl _ | assumption | exact mulLe (by decide) (by omega) | exact mulLe2 (by decide) (by omega) (by omega) | (intros; simp only [BL] at *; omega) | (intros; (try simp only [BL] at *); (try simp only [DL] at *); omega) | (intros; simp only [BL] at *; rw [wr_id (by omega) (by omega)]; omega) | (intro h1 h2; exact Bool.and_eq_true_iff.2 ⟨h1, h2⟩) | (intros; simp_all; done))); conv => whnf)
      | (refine Or.inr (And.intro rfl ?_); first | (refine congrArg intV ?_) | (refine congrArg boolV ?_) | (refine tupII ?_ ?_) | (refine tupIII ?_ ?_ ?_) | (refine tupU ?_ ?_ ?_ ?_ ?_) | exact rfl))
    refine And.intro (fun _ => ?_) (fun hg => ?_)
    · refine CallG.mk (Fn.mono (aucCheck a n hn hk) ?_)
      rintro obs r ⟨rfl, rfl⟩
      conv => whnf
      repeat' (first
        | (refine NilG.mk fun bn hbn => ?_; conv => whnf)
        | (refine Both.mk ?_ ?_ <;> conv => whnf)
        | exact trivial
        | (refine Br.mk (fun hb => ?_) (fun hb => ?_) <;> (first | (exfalso; revert hb; decide) | ((try simp only [BL] at hb) <;> (try simp only [DL] at hb) <;> conv => whnf)))
        | (refine And.intro ?_ ?_; (focus (first | exact id | exact rfl | exact trivial | (intro hg; first | exact hg | exact rfl | (simp; done) | (simp at hg ⊢; assumption)) | omega | decide | exact is2_c _ _ _ | exact is1_c _ _ | exact isS_c _ _ | exact isB_c _ _ | exact Nat.le_refl _ | assumption | exact mulLe (by decide) (by omega) | exact mulLe2 (by decide) (by omega) (by omega) | (intros; simp only [BL] at *; omega) | (intros; (try simp only [BL] at *); (try simp only [DL] at *); omega) | (intros; simp only [BL] at *; rw [wr_id (by omega) (by omega)]; omega) | (intro h1 h2; exact Bool.and_eq_true_iff.2 ⟨h1, h2⟩) | (intros; simp_all; done))); conv => whnf)
        | (refine Or.inr (And.intro rfl ?_); first | (refine congrArg intV ?_) | (refine congrArg boolV ?_) | (refine tupII ?_ ?_) | (refine tupIII ?_ ?_ ?_) | (refine tupU ?_ ?_ ?_ ?_ ?_) | exact rfl))
      simp
    · simp at hg
    · exact absurd (by assumption) h0
  conv => whnf
  repeat' (first
    | (refine NilG.mk fun bn hbn => ?_; conv => whnf)
    | (refine Both.mk ?_ ?_ <;> conv => whnf)
    | exact trivial
    | (refine Br.mk (fun hb => ?_) (fun hb => ?_) <;> (first | (exfalso; revert hb; decide) | ((try simp only [BL] at hb) <;> (try simp only [DL] at hb) <;> conv => whnf)))
    | (refine And.intro ?_ ?_; (focus (first | exact id | exact rfl | exact trivial | (intro hg; first | exact hg | exact rfl | (simp; done) | (simp at hg ⊢; assumption)) | omega | decide | exact is2_c _ _ _ | exact is1_c _ _ | exact isS_c _ _ | exact isB_c _ _ | exact Nat.le_refl _ | assumption | exact mulLe (by decide) (by omega) | exact mulLe2 (by decide) (by omega) (by omega) | (intros; simp only [BL] at *; omega) | (intros; (try simp only [BL] at *); (try simp only [DL] at *); omega) | (intros; simp only [BL] at *; rw [wr_id (by omega) (by omega)]; omega) | (intro h1 h2; exact Bool.and_eq_true_iff.2 ⟨h1, h2⟩) | (intros; simp_all; done))); conv => whnf)
    | (refine Or.inr (And.intro rfl ?_); first | (refine congrArg intV ?_) | (refine congrArg boolV ?_) | (refine tupII ?_ ?_) | (refine tupIII ?_ ?_ ?_) | (refine tupU ?_ ?_ ?_ ?_ ?_) | exact rfl))
  refine CallG.mk (Fn.mono (aucErr a n hn hk) ?_)
  rintro obs r ⟨rfl, rfl⟩
  rw [h0]
  generalize hP : (if 0 < t then aPr a n π1 π2 t else 0) = P
  obtain ⟨hn32, hok⟩ := aosE_zero h0
  conv => whnf
  repeat' (first
    | (refine NilG.mk fun bn hbn => ?_; conv => whnf)
    | (refine Both.mk ?_ ?_ <;> conv => whnf)
    | exact trivial
    | (refine Br.mk (fun hb => ?_) (fun hb => ?_) <;> (first | (exfalso; revert hb; decide) | ((try simp only [BL] at hb) <;> (try simp only [DL] at hb) <;> conv => whnf)))
    | (refine And.intro ?_ ?_; (focus (first | exact id | exact rfl | exact trivial | (intro hg; first | exact hg | exact rfl | (simp; done) | (simp at hg ⊢; assumption)) | omega | decide | exact is2_c _ _ _ | exact is1_c _ _ | exact isS_c _ _ | exact isB_c _ _ | exact Nat.le_refl _ | assumption | exact mulLe (by decide) (by omega) | exact mulLe2 (by decide) (by omega) (by omega) | (intros; simp only [BL] at *; omega) | (intros; (try simp only [BL] at *); (try simp only [DL] at *); omega) | (intros; simp only [BL] at *; rw [wr_id (by omega) (by omega)]; omega) | (intro h1 h2; exact Bool.and_eq_true_iff.2 ⟨h1, h2⟩) | (intros; simp_all; done))); conv => whnf)
    | (refine Or.inr (And.intro rfl ?_); first | (refine congrArg intV ?_) | (refine congrArg boolV ?_) | (refine tupII ?_ ?_) | (refine tupIII ?_ ?_ ?_) | (refine tupU ?_ ?_ ?_ ?_ ?_) | exact rfl))
  refine sem_loop tab_ok gamA5_ok mixed (by kernel_rfl) (O := lex) (fun i : Nat => ⟨[(0, .c (.sl 4 n (cAo a))), (6, .lp 0 0), (7, intV 0), (9, intV (S (fun k => (a k).pw) i)), (72, .c (.sl 4 n (cAo a))), (73, intV n), (74, intV i)], [.box [intV P, intV t, .c (.sl 1 n (c1 (aFl a n π1 π2 t)))]]⟩) (fun i => i ≤ n) (fun i => n - i) ⟨0, [?_], Nat.zero_le _, ?_⟩ fun i hi => ?_
  rotate_left 1
  · refine Sub.of ?_ ?_ ?_
    repeat' (first | (refine And.intro ?_ ?_) | exact trivial | exact fun _ _ _ => hsc _ _ | (exact congrArg intV (by first | with_reducible rfl | with_reducible assumption)) | exact (rfl : AV.idsLt _ _ = true) | exact (rfl : _ = AV.ren _ (.own _)) | exact (rfl : _ = AV.ren _ (.fn _ _)) | exact (rfl : _ = AV.ren _ (.gh _)) | (exact congrArg intV (by assumption)) | (refine congrArg intV ((wr_id (by omega) (by omega)).trans (by omega))) | exact rfl | (simp only [Int.toNat_natCast, Int.toNat_zero, Nat.sub_zero, Nat.zero_add]; first | exact rfl | done) | exact all0 | exact fun h => Bool.noConfusion h | exact fun _ _ _ _ => rfl | omega)
  have ew : i < n → IntKind.i64.wrap (S (fun k => (a k).pw) i + (a i).pw) = S (fun k => (a k).pw) (i + 1) := fun h => by
    have k1 := S_le (p := fun k => (a k).pw) (a := 0) (b := 100000) (k := i + 1) fun k hk => by
      have := hok k (by omega)
      omega
    have k3 : S (fun k => (a k).pw) (i + 1) = S (fun k => (a k).pw) i + (a i).pw := rfl
    rw [k3] at k1 ⊢
    exact wr_id (by omega) (by omega)
  conv => whnf
  repeat' (first
    | (refine NilG.mk fun bn hbn => ?_; conv => whnf)
    | (refine Both.mk ?_ ?_ <;> conv => whnf)
    | exact trivial
    | (refine Br.mk (fun hb => ?_) (fun hb => ?_) <;> (first | (exfalso; revert hb; decide) | ((try simp only [BL] at hb) <;> (try simp only [DL] at hb) <;> conv => whnf)))
    | (refine And.intro ?_ ?_; (focus (first | exact id | exact rfl | exact trivial | (intro hg; first | exact hg | exact rfl | (simp; done) | (simp at hg ⊢; assumption)) | omega | decide | exact is2_c _ _ _ | exact is1_c _ _ | exact isS_c _ _ | exact isB_c _ _ | exact Nat.le_refl _ | assumption | exact mulLe (by decide) (by omega) | exact mulLe2 (by decide) (by omega) (by omega) | (intros; simp only [BL] at *; omega) | (intros; (try simp only [BL] at *); (try simp only [DL] at *); omega) | (intros; simp only [BL] at *; rw [wr_id (by omega) (by omega)]; omega) | (intro h1 h2; exact Bool.and_eq_true_iff.2 ⟨h1, h2⟩) | (intros; simp_all; done))); conv => whnf)
    | (refine Or.inr (And.intro rfl ?_); first | (refine congrArg intV ?_) | (refine congrArg boolV ?_) | (refine tupII ?_ ?_) | (refine tupIII ?_ ?_ ?_) | (refine tupU ?_ ?_ ?_ ?_ ?_) | exact rfl))
  · have ew := ew (by omega)
    refine ⟨i + 1, [0], by omega, by omega, ?_⟩
    refine Sub.of ?_ ?_ ?_
    repeat' (first | (refine And.intro ?_ ?_) | exact trivial | exact fun _ _ _ => hsc _ _ | (exact congrArg intV (by first | with_reducible rfl | with_reducible assumption)) | exact (rfl : AV.idsLt _ _ = true) | exact (rfl : _ = AV.ren _ (.own _)) | exact (rfl : _ = AV.ren _ (.fn _ _)) | exact (rfl : _ = AV.ren _ (.gh _)) | (exact congrArg intV (by assumption)) | (refine congrArg intV ((wr_id (by omega) (by omega)).trans (by omega))) | exact rfl | (simp only [Int.toNat_natCast, Int.toNat_zero, Nat.sub_zero, Nat.zero_add]; first | exact rfl | done) | exact all0 | exact fun h => Bool.noConfusion h | exact fun _ _ _ _ => rfl | omega)
  · rfl
  refine CallG.mk (Fn.mono (aucCleared a n π1 π2 ha hn32 fun k hk => (hok k hk).2.1) ?_)
  rintro obs r ⟨rfl, t', hall', hnf', rfl⟩
  obtain rfl : t = t' := aFit_end ha hall hnf hall' hnf'
  conv => whnf
  repeat' (first
    | (refine NilG.mk fun bn hbn => ?_; conv => whnf)
    | (refine Both.mk ?_ ?_ <;> conv => whnf)
    | exact trivial
    | (refine Br.mk (fun hb => ?_) (fun hb => ?_) <;> (first | (exfalso; revert hb; decide) | ((try simp only [BL] at hb) <;> (try simp only [DL] at hb) <;> conv => whnf)))
    | (refine And.intro ?_ ?_; (focus (first | exact id | exact rfl | exact trivial | (intro hg; first | exact hg | exact rfl | (simp; done) | (simp at hg ⊢; assumption)) | omega | decide | exact is2_c _ _ _ | exact is1_c _ _ | exact isS_c _ _ | exact isB_c _ _ | exact Nat.le_refl _ | assumption | exact mulLe (by decide) (by omega) | exact mulLe2 (by decide) (by omega) (by omega) | (intros; simp only [BL] at *; omega) | (intros; (try simp only [BL] at *); (try simp only [DL] at *); omega) | (intros; simp only [BL] at *; rw [wr_id (by omega) (by omega)]; omega) | (intro h1 h2; exact Bool.and_eq_true_iff.2 ⟨h1, h2⟩) | (intros; simp_all; done))); conv => whnf)
    | (refine Or.inr (And.intro rfl ?_); first | (refine congrArg intV ?_) | (refine congrArg boolV ?_) | (refine tupII ?_ ?_) | (refine tupIII ?_ ?_ ?_) | (refine tupU ?_ ?_ ?_ ?_ ?_) | exact rfl))
  refine And.intro (fun _ => ⟨is1_c _ _, is1_c _ _, by omega, rfl, fun _ _ => rfl⟩) ?_
  conv => whnf
  repeat' (first
    | (refine NilG.mk fun bn hbn => ?_; conv => whnf)
    | (refine Both.mk ?_ ?_ <;> conv => whnf)
    | exact trivial
    | (refine Br.mk (fun hb => ?_) (fun hb => ?_) <;> (first | (exfalso; revert hb; decide) | ((try simp only [BL] at hb) <;> (try simp only [DL] at hb) <;> conv => whnf)))
    | (refine And.intro ?_ ?_; (focus (first | exact id | exact rfl | exact trivial | (intro hg; first | exact hg | exact rfl | (simp; done) | (simp at hg ⊢; assumption)) | omega | decide | exact is2_c _ _ _ | exact is1_c _ _ | exact isS_c _ _ | exact isB_c _ _ | exact Nat.le_refl _ | assumption | exact mulLe (by decide) (by omega) | exact mulLe2 (by decide) (by omega) (by omega) | (intros; simp only [BL] at *; omega) | (intros; (try simp only [BL] at *); (try simp only [DL] at *); omega) | (intros; simp only [BL] at *; rw [wr_id (by omega) (by omega)]; omega) | (intro h1 h2; exact Bool.and_eq_true_iff.2 ⟨h1, h2⟩) | (intros; simp_all; done))); conv => whnf)
    | (refine Or.inr (And.intro rfl ?_); first | (refine congrArg intV ?_) | (refine congrArg boolV ?_) | (refine tupII ?_ ?_) | (refine tupIII ?_ ?_ ?_) | (refine tupU ?_ ?_ ?_ ?_ ?_) | exact rfl))
  · simp at hb
  · have h9 : ¬ 0 < t := by omega
    rw [if_neg h9] at hP
    rw [← hP]
    rfl
  have ht0 : 0 < t := by omega
  rw [if_pos ht0] at hP
  obtain ⟨k, k', k1, k2, k3, k4, k5⟩ := aEnds ha hall hnf ht0
  obtain rfl : i = n := by omega
  clear hb hall' hnf'
  have hpr : ∀ k, k < i → -1000000 ≤ (a k).pr ∧ (a k).pr ≤ 1000000 := fun k hk => (hok k hk).2.2
  have p1 := hpr k k1
  have p2 := hpr k' k2
  have hPm : P = (if (loA a (aFl a i π1 π2 t) i + hiA a (aFl a i π1 π2 t) i) % 2 ≠ 0 ∧ loA a (aFl a i π1 π2 t) i + hiA a (aFl a i π1 π2 t) i < 0 then (loA a (aFl a i π1 π2 t) i + hiA a (aFl a i π1 π2 t) i).tdiv 2 - 1 else (loA a (aFl a i π1 π2 t) i + hiA a (aFl a i π1 π2 t) i).tdiv 2) := by
    rw [← hP]
    exact shr1 (by omega)
  obtain ⟨e1, e2⟩ := lwF_eq hpr k1 k2 k3 k4 (by omega)
  have fits := fun p hp => aucFits a (aFl a i π1 π2 t) i p hn32 hp
  generalize hlo : loA a (aFl a i π1 π2 t) i = lo at *
  generalize hhi : hiA a (aFl a i π1 π2 t) i = hi' at *
  generalize aFl a i π1 π2 t = F at *
  refine sem_loop tab_ok gamA5_ok mixed (by kernel_rfl) (O := lex) (fun j : Nat => ⟨[(0, .c (.sl 4 i (cAo a))), (6, .lp 0 0), (12, .lp 1 0), (13, intV (lwF a lo hi' j)), (14, intV (hgF a lo hi' j)), (110, .c (.sl 4 i (cAo a))), (111, intV i), (112, intV j)], [.box [intV P, intV t, .c (.sl 1 i (c1 F))], .box [intV 0, intV t, .c (.sl 1 i (c1 F))]]⟩) (fun j => j ≤ i) (fun j => i - j) ⟨0, [?_, ?_], Nat.zero_le _, ?_⟩ fun j hj => ?_
  rotate_left 2
  · refine Sub.of ?_ ?_ ?_
    repeat' (first | (refine And.intro ?_ ?_) | exact trivial | exact fun _ _ _ => hsc _ _ | (exact congrArg intV (by first | with_reducible rfl | with_reducible assumption)) | exact (rfl : AV.idsLt _ _ = true) | exact (rfl : _ = AV.ren _ (.own _)) | exact (rfl : _ = AV.ren _ (.fn _ _)) | exact (rfl : _ = AV.ren _ (.gh _)) | (exact congrArg intV (by assumption)) | (refine congrArg intV ((wr_id (by omega) (by omega)).trans (by omega))) | exact rfl | (simp only [Int.toNat_natCast, Int.toNat_zero, Nat.sub_zero, Nat.zero_add]; first | exact rfl | done) | exact all0 | exact fun h => Bool.noConfusion h | exact fun _ _ _ _ => rfl | omega)
  have hE : j = i → lwF a lo hi' j = lo ∧ hgF a lo hi' j = hi' := fun e => by rw [e]; exact ⟨e1, e2⟩
  conv => whnf
  repeat' (first
    | (refine NilG.mk fun bn hbn => ?_; conv => whnf)
    | (refine Both.mk ?_ ?_ <;> conv => whnf)
    | exact trivial
    | (refine Br.mk (fun hb => ?_) (fun hb => ?_) <;> (first | (exfalso; revert hb; decide) | ((try simp only [BL] at hb) <;> (try simp only [DL] at hb) <;> conv => whnf)))
    | (refine And.intro ?_ ?_; (focus (first | exact id | exact rfl | exact trivial | (intro hg; first | exact hg | exact rfl | (simp; done) | (simp at hg ⊢; assumption)) | omega | decide | exact is2_c _ _ _ | exact is1_c _ _ | exact isS_c _ _ | exact isB_c _ _ | exact Nat.le_refl _ | assumption | exact mulLe (by decide) (by omega) | exact mulLe2 (by decide) (by omega) (by omega) | (intros; simp only [BL] at *; omega) | (intros; (try simp only [BL] at *); (try simp only [DL] at *); omega) | (intros; simp only [BL] at *; rw [wr_id (by omega) (by omega)]; omega) | (intro h1 h2; exact Bool.and_eq_true_iff.2 ⟨h1, h2⟩) | (intros; simp_all; done))); conv => whnf)
    | (refine Or.inr (And.intro rfl ?_); first | (refine congrArg intV ?_) | (refine congrArg boolV ?_) | (refine tupII ?_ ?_) | (refine tupIII ?_ ?_ ?_) | (refine tupU ?_ ?_ ?_ ?_ ?_) | exact rfl))
  · refine CallG.mk (Fn.mono (fits _ (hpr j (by omega))) ?_)
    rintro obs r ⟨rfl, rfl⟩
    have el : lwF a lo hi' (j + 1) = if lo ≤ (a j).pr ∧ (a j).pr ≤ hi' then min (lwF a lo hi' j) (a j).pr else lwF a lo hi' j := rfl
    have eh : hgF a lo hi' (j + 1) = if lo ≤ (a j).pr ∧ (a j).pr ≤ hi' then max (hgF a lo hi' j) (a j).pr else hgF a lo hi' j := rfl
    conv => whnf
    repeat' (first
      | (refine NilG.mk fun bn hbn => ?_; conv => whnf)
      | (refine Both.mk ?_ ?_ <;> conv => whnf)
      | exact trivial
      | (refine Br.mk (fun hb => ?_) (fun hb => ?_) <;> (first | (exfalso; revert hb; decide) | ((try simp only [BL] at hb) <;> (try simp only [DL] at hb) <;> conv => whnf)))
      | (refine And.intro ?_ ?_; (focus (first | exact id | exact rfl | exact trivial | (intro hg; first | exact hg | exact rfl | (simp; done) | (simp at hg ⊢; assumption)) | omega | decide | exact is2_c _ _ _ | exact is1_c _ _ | exact isS_c _ _ | exact isB_c _ _ | exact Nat.le_refl _ | assumption | exact mulLe (by decide) (by omega) | exact mulLe2 (by decide) (by omega) (by omega) | (intros; simp only [BL] at *; omega) | (intros; (try simp only [BL] at *); (try simp only [DL] at *); omega) | (intros; simp only [BL] at *; rw [wr_id (by omega) (by omega)]; omega) | (intro h1 h2; exact Bool.and_eq_true_iff.2 ⟨h1, h2⟩) | (intros; simp_all; done))); conv => whnf)
      | (refine Or.inr (And.intro rfl ?_); first | (refine congrArg intV ?_) | (refine congrArg boolV ?_) | (refine tupII ?_ ?_) | (refine tupIII ?_ ?_ ?_) | (refine tupU ?_ ?_ ?_ ?_ ?_) | exact rfl))
    · have f1 : min (lwF a lo hi' j) (a j).pr = lwF a lo hi' (j + 1) := by rw [el, if_pos hb]
      have f2 : max (hgF a lo hi' j) (a j).pr = hgF a lo hi' (j + 1) := by rw [eh, if_pos hb]
      refine ⟨j + 1, [0, 1], by omega, by omega, ?_⟩
      refine Sub.of ?_ ?_ ?_
      repeat' (first | (refine And.intro ?_ ?_) | exact trivial | exact fun _ _ _ => hsc _ _ | (exact congrArg intV (by first | with_reducible rfl | with_reducible assumption)) | exact (rfl : AV.idsLt _ _ = true) | exact (rfl : _ = AV.ren _ (.own _)) | exact (rfl : _ = AV.ren _ (.fn _ _)) | exact (rfl : _ = AV.ren _ (.gh _)) | (exact congrArg intV (by assumption)) | (refine congrArg intV ((wr_id (by omega) (by omega)).trans (by omega))) | exact rfl | (simp only [Int.toNat_natCast, Int.toNat_zero, Nat.sub_zero, Nat.zero_add]; first | exact rfl | done) | exact all0 | exact fun h => Bool.noConfusion h | exact fun _ _ _ _ => rfl | omega)
    · have f1 : lwF a lo hi' j = lwF a lo hi' (j + 1) := by rw [el, if_neg (by omega)]
      have f2 : hgF a lo hi' j = hgF a lo hi' (j + 1) := by rw [eh, if_neg (by omega)]
      refine ⟨j + 1, [0, 1], by omega, by omega, ?_⟩
      refine Sub.of ?_ ?_ ?_
      repeat' (first | (refine And.intro ?_ ?_) | exact trivial | exact fun _ _ _ => hsc _ _ | (exact congrArg intV (by first | with_reducible rfl | with_reducible assumption)) | exact (rfl : AV.idsLt _ _ = true) | exact (rfl : _ = AV.ren _ (.own _)) | exact (rfl : _ = AV.ren _ (.fn _ _)) | exact (rfl : _ = AV.ren _ (.gh _)) | (exact congrArg intV (by assumption)) | (refine congrArg intV ((wr_id (by omega) (by omega)).trans (by omega))) | exact rfl | (simp only [Int.toNat_natCast, Int.toNat_zero, Nat.sub_zero, Nat.zero_add]; first | exact rfl | done) | exact all0 | exact fun h => Bool.noConfusion h | exact fun _ _ _ _ => rfl | omega)
  · obtain ⟨e1, e2⟩ := hE (by omega)
    obtain ⟨t1, t2, t3⟩ := tdv (x := lo + hi') (by omega)
    rw [e1, e2, wr_id (x := lo + hi') (by omega) (by omega)] at hb ⊢
    rw [wr_id (x := (lo + hi').tdiv 2) (by omega) (by omega), wr_id (x := (lo + hi').tdiv 2 - 1) (by omega) (by omega), hPm, if_pos (by omega)]
    simp
  · obtain ⟨e1, e2⟩ := hE (by omega)
    obtain ⟨t1, t2, t3⟩ := tdv (x := lo + hi') (by omega)
    rw [e1, e2, wr_id (x := lo + hi') (by omega) (by omega)] at hb ⊢
    rw [wr_id (x := (lo + hi').tdiv 2) (by omega) (by omega), hPm, if_neg (by omega)]
    simp
def tyAo : Ty := .st (.cons .s (.cons .b (.cons (.i .i64) (.cons (.i .i64) .nil))))

theorem auctionClears_own : ownKnob Try.prog.godebug = none := by kernel_rfl
theorem auctionClears_laid : laidOutB Try.prog = true := by kernel_rfl

set_option maxRecDepth 100000 in
theorem auctionClears_lifted (os : Os) (started : os.Started) (H : Type) (enc : TypeId × Value → H) :
    ReturnsInHanded {} Try.checked os 8 .any (Rows.auctionClearsSpec.pre6 enc Try.prog Try.f8 Rows.auctionClearsRow.domain false) (Rows.auctionClearsSpec.post enc Try.prog Try.f8 false true false false) := by
  refine returnsInHanded_of_change (C := Try.checked) auctionClears_own started (by kernel_rfl) Try.func8
    (ChangeSpec.witness6 (enc := enc) (C := Try.checked) false ⟨#[], #[.slice none 0 0], []⟩ 8 (by kernel_rfl) (by kernel_rfl) (by kernel_rfl) (by kernel_rfl)) ?_
  intro W base args ds gs before hval0 hW hcnd _
  have hval : ∀ (j : Nat) t v, Try.f8.params[j]? = some t → args[j]? = some v → Value.okWide Try.prog W .any base t v := hval0
  have hW' : DataW.Whole enc Try.prog Try.f8.params.toList Rows.auctionClearsSpec.vars false W args.toList ds gs before := hW
  exact law_post (P := Try.prog) [.sl tyAo] (by kernel_rfl) auctionClears_laid (by kernel_rfl) rfl (tb := 4) rfl (by kernel_rfl) (fun ds h => by
    match ds, h with
    | [d], _ => rfl) (fun x hx => aucLaw (fun k => ⟨(x.1.2 k).1, (x.1.2 k).2.1, (x.1.2 k).2.2.1, (x.1.2 k).2.2.2.1⟩) x.1.1 hx.1.1 (fun k hk => (hx.1.2 k hk).1)) W args ds gs before hval hW'

theorem auctionClears_holds : Rows.AuctionClearsSaid :=
  OpenClaim.holds_of_wide 8 Try.f8 rfl rfl rfl rfl rfl rfl rfl ⟨rfl, rfl, rfl, rfl, rfl⟩ rfl rfl rfl rfl rfl (by kernel_rfl) Try.func8 (by kernel_rfl)
    (of_decide_eq_true (by kernel_rfl)) (by unfold Func.isWrapper; rw [if_neg (by decide +kernel)]; exact ⟨rfl, rfl⟩)
    (fun os started H enc _ => auctionClears_lifted os started H enc)
end Go.Proofs.Ytdakikgebfphmaa
