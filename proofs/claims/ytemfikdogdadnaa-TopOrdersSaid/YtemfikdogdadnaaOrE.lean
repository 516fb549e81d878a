/-
  Orders: Plan; the reference's Plan.
-/
import Derived.Test.YtemfikdogdadnaaOrD
namespace Go.Proofs.Ytemfikdogdadnaa
open Go.RowKit

def plK (X : OrX) (c0 t : Nat) (obs : List OB) (r : AV) : Prop := obs = [] ∧ ∃ b P, Wkd X.e X.n c0 b P ∧ ((b t = -2 ∧ r = .tup [.c (.v (.slice none 0 0)), intV 8]) ∨ (b t ≠ -2 ∧ r = .tup [.c (.sl 2 (stp c0 (P t)).length (cOs X.nm (stp c0 (P t)))), intV 0]))
theorem chE_ok {X : OrX} (hX : X.ok) (hN : X.hN ≤ 256) (c t : Nat) : chE X.r (stC X.n X.nm c) (stC X.n X.nm t) X.hN = 0 := by
  obtain ⟨hr, hnm, hHn, h8, hr0, hs0⟩ := hX
  unfold chE
  have ha : alB (stC X.n X.nm c) (stC X.n X.nm t) = true := by
    unfold alB
    rw [decide_eq_true rfl, Bool.true_and, all_range]
    exact fun k _ => b_eq.2 rfl
  rw [if_pos hr0, if_pos (show stsE (stC X.n X.nm c) = 0 from hs0), if_pos (show stsE (stC X.n X.nm t) = 0 from hs0), if_neg (show ¬ (8 < X.n ∨ 256 < X.hN) by omega), if_pos ha]
theorem apO {nm : Nat → ByteArray} {l : List (Bool × Nat)} {x : Bool × Nat} : ∀ a, a < l.length + 1 → ∀ b, b < 2 → (if a < l.length then cOs nm l a b else (([bL x.1, sL (nm x.2)] : List L)[(a - l.length) * 2 + b]?).getD (.v undef)) = cOs nm (l ++ [x]) a b := fun a ha b hb => by
  by_cases h : a < l.length
  · rw [if_pos h]
    have e : (l ++ [x]).getD a (false, 0) = l.getD a (false, 0) := by rw [List.getD, List.getD, List.getElem?_append_left h]
    unfold cOs
    rw [e]
  · obtain rfl : a = l.length := by omega
    have e : (l ++ [x]).getD l.length (false, 0) = x := by
      rw [List.getD, List.getElem?_append_right (Nat.le_refl _), Nat.sub_self]
      rfl
    rw [if_neg h, Nat.sub_self]
    unfold cOs
    rw [e]
    match b, hb with
    | 0, _ => rfl
    | 1, _ => rfl
set_option maxRecDepth 100000 in
set_option maxHeartbeats 4000000 in
theorem orPlan (X : OrX) (c0 t : Nat) (hX : X.ok) (hN : X.hN ≤ 256) (hc0 : c0 < 2 ^ X.n) (ht : t < 2 ^ X.n) : Fn Try.prog 16 [rlV X.r, stV (stC X.n X.nm c0), stV (stC X.n X.nm t), .c (.sl 1 X.hN (cS X.H))] (plK X c0 t) := by
  refine fn_of_wpx (O := lex) tab_ok (Γ := fun _ => none) (fun _ _ h => by cases h) mixed Try.func16 (by kernel_rfl) rfl rfl rfl (by simp [Try.ntmps16]) (by kernel_rfl) ?_
  have hX9 := hX
  obtain ⟨hr, hnm, hHn, h8, hr0, hs0⟩ := hX9
  have h256 := pow_le8 h8
  conv => whnf
  repeat' (first
    | (refine NilG.mk fun bn hbn hbx => ?_; conv => whnf)
    | (refine Both.mk ?_ ?_ <;> conv => whnf)
    | ((first | (refine MkG.box 1 rfl rfl rfl (by decide) ?_) | (refine MkG.box 2 rfl rfl rfl (by decide) ?_) | (refine MkG.box 3 rfl rfl rfl (by decide) ?_) | (refine MkG.row ?_)); conv => whnf)
    | exact trivial
    | (refine Br.mk (fun hb => ?_) (fun hb => ?_) <;> (first | (exfalso; revert hb; decide) | ((try simp only [BL] at hb) <;> (try simp only [DL] at hb) <;> (first | (exfalso; omega) | (conv => whnf)))))
    | (refine And.intro ?_ ?_; (focus (first | exact id | exact rfl | exact trivial | (intro hg; first | exact hg | exact rfl | (simp; done) | (simp at hg ⊢; assumption)) | omega | decide | exact is2_c _ _ _ | exact is1_c _ _ | exact isS_c _ _ | exact isB_c _ _ | exact Nat.le_refl _ | assumption | exact mulLe (by decide) (by omega) | exact mulLe2 (by decide) (by omega) (by omega) | (intros; simp only [BL] at *; omega) | (intros; (try simp only [BL] at *); (try simp only [DL] at *); omega) | (intros; simp only [BL] at *; rw [wr_id (by omega) (by omega)]; omega) | (intro h1 h2; exact Bool.and_eq_true_iff.2 ⟨h1, h2⟩) | (intros; simp_all; done))); conv => whnf)
    | (refine Or.inr (And.intro rfl ?_); first | (refine congrArg intV ?_) | (refine congrArg boolV ?_) | (refine tupII ?_ ?_) | (refine tupIII ?_ ?_ ?_) | (refine tupU ?_ ?_ ?_ ?_ ?_) | exact rfl))
  refine CallG.mk (Fn.mono (orChk X.r (stC X.n X.nm c0) (stC X.n X.nm t) X.hN X.H hr (stC_ok hnm) (stC_ok hnm) hHn) ?_)
  rintro obs r' ⟨rfl, rfl⟩
  rw [chE_ok hX hN]
  conv => whnf
  repeat' (first
    | (refine NilG.mk fun bn hbn hbx => ?_; conv => whnf)
    | (refine Both.mk ?_ ?_ <;> conv => whnf)
    | ((first | (refine MkG.box 1 rfl rfl rfl (by decide) ?_) | (refine MkG.box 2 rfl rfl rfl (by decide) ?_) | (refine MkG.box 3 rfl rfl rfl (by decide) ?_) | (refine MkG.row ?_)); conv => whnf)
    | exact trivial
    | (refine Br.mk (fun hb => ?_) (fun hb => ?_) <;> (first | (exfalso; revert hb; decide) | ((try simp only [BL] at hb) <;> (try simp only [DL] at hb) <;> (first | (exfalso; omega) | (conv => whnf)))))
    | (refine And.intro ?_ ?_; (focus (first | exact id | exact rfl | exact trivial | (intro hg; first | exact hg | exact rfl | (simp; done) | (simp at hg ⊢; assumption)) | omega | decide | exact is2_c _ _ _ | exact is1_c _ _ | exact isS_c _ _ | exact isB_c _ _ | exact Nat.le_refl _ | assumption | exact mulLe (by decide) (by omega) | exact mulLe2 (by decide) (by omega) (by omega) | (intros; simp only [BL] at *; omega) | (intros; (try simp only [BL] at *); (try simp only [DL] at *); omega) | (intros; simp only [BL] at *; rw [wr_id (by omega) (by omega)]; omega) | (intro h1 h2; exact Bool.and_eq_true_iff.2 ⟨h1, h2⟩) | (intros; simp_all; done))); conv => whnf)
    | (refine Or.inr (And.intro rfl ?_); first | (refine congrArg intV ?_) | (refine congrArg boolV ?_) | (refine tupII ?_ ?_) | (refine tupIII ?_ ?_ ?_) | (refine tupU ?_ ?_ ?_ ?_ ?_) | exact rfl))
  refine CallG.mk (Fn.mono (orWalk X c0 hX hc0) ?_)
  rintro obs r' ⟨rfl, b, P, W, rfl⟩
  conv => whnf
  repeat' (first
    | (refine NilG.mk fun bn hbn hbx => ?_; conv => whnf)
    | (refine Both.mk ?_ ?_ <;> conv => whnf)
    | ((first | (refine MkG.box 1 rfl rfl rfl (by decide) ?_) | (refine MkG.box 2 rfl rfl rfl (by decide) ?_) | (refine MkG.box 3 rfl rfl rfl (by decide) ?_) | (refine MkG.row ?_)); conv => whnf)
    | exact trivial
    | (refine Br.mk (fun hb => ?_) (fun hb => ?_) <;> (first | (exfalso; revert hb; decide) | ((try simp only [BL] at hb) <;> (try simp only [DL] at hb) <;> (first | (exfalso; omega) | (conv => whnf)))))
    | (refine And.intro ?_ ?_; (focus (first | exact id | exact rfl | exact trivial | (intro hg; first | exact hg | exact rfl | (simp; done) | (simp at hg ⊢; assumption)) | omega | decide | exact is2_c _ _ _ | exact is1_c _ _ | exact isS_c _ _ | exact isB_c _ _ | exact Nat.le_refl _ | assumption | exact mulLe (by decide) (by omega) | exact mulLe2 (by decide) (by omega) (by omega) | (intros; simp only [BL] at *; omega) | (intros; (try simp only [BL] at *); (try simp only [DL] at *); omega) | (intros; simp only [BL] at *; rw [wr_id (by omega) (by omega)]; omega) | (intro h1 h2; exact Bool.and_eq_true_iff.2 ⟨h1, h2⟩) | exact arr256 | (intros; simp_all; done))); conv => whnf)
    | (refine Or.inr (And.intro rfl ?_); first | (refine congrArg intV ?_) | (refine congrArg boolV ?_) | (refine tupII ?_ ?_) | (refine tupIII ?_ ?_ ?_) | (refine tupU ?_ ?_ ?_ ?_ ?_) | exact rfl))
  refine CallG.mk (Fn.mono (orCodeC X.n X.nm t h8 ht) ?_)
  rintro obs r' ⟨rfl, rfl⟩
  have ht9 : (t : Int).toNat = t := rfl
  conv => whnf
  repeat' (first
    | (refine NilG.mk fun bn hbn hbx => ?_; conv => whnf)
    | (refine Both.mk ?_ ?_ <;> conv => whnf)
    | ((first | (refine MkG.box 1 rfl rfl rfl (by decide) ?_) | (refine MkG.box 2 rfl rfl rfl (by decide) ?_) | (refine MkG.box 3 rfl rfl rfl (by decide) ?_) | (refine MkG.row ?_)); conv => whnf)
    | exact trivial
    | (refine Br.mk (fun hb => ?_) (fun hb => ?_) <;> (first | (exfalso; revert hb; decide) | ((try simp only [BL] at hb) <;> (try simp only [DL] at hb) <;> (first | (exfalso; omega) | (conv => whnf)))))
    | (refine And.intro ?_ ?_; (focus (first | exact id | exact rfl | exact trivial | (intro hg; first | exact hg | exact rfl | (simp; done) | (simp at hg ⊢; assumption)) | omega | decide | exact is2_c _ _ _ | exact is1_c _ _ | exact isS_c _ _ | exact isB_c _ _ | exact Nat.le_refl _ | assumption | exact mulLe (by decide) (by omega) | exact mulLe2 (by decide) (by omega) (by omega) | (intros; simp only [BL] at *; omega) | (intros; (try simp only [BL] at *); (try simp only [DL] at *); omega) | (intros; simp only [BL] at *; rw [wr_id (by omega) (by omega)]; omega) | (intro h1 h2; exact Bool.and_eq_true_iff.2 ⟨h1, h2⟩) | exact ⟨rfl, by omega, by decide⟩ | (intros; simp_all; done))); conv => whnf)
    | (refine Or.inr (And.intro rfl ?_); first | (refine congrArg intV ?_) | (refine congrArg boolV ?_) | (refine tupII ?_ ?_) | (refine tupIII ?_ ?_ ?_) | (refine tupU ?_ ?_ ?_ ?_ ?_) | exact rfl))
  · exact .inr ⟨rfl, b, P, W, .inl ⟨hb, rfl⟩⟩
  have hb2 : b t ≠ -2 := hb
  clear hb
  refine LoopG.nil 13 50 2 rfl ?_
  refine sem_loop tab_ok gamN1_ok mixed (by kernel_rfl) (O := lex) (fun y : Nat × List (Bool × Nat) => ⟨[(1, stV (stC X.n X.nm c0)), (11, .lp 0 0), (12, intV y.1), (13, .own 1)], [.arr 1 256 false (fun k _ => iL (b k)), rOs X.nm y.2]⟩) (fun y => y.1 < 2 ^ X.n ∧ b y.1 ≠ -2 ∧ stp c0 (P y.1) ++ y.2.reverse = stp c0 (P t)) (fun y => (P y.1).length) ⟨(t, []), [?_, ?_], ⟨ht, hb2, List.append_nil _⟩, ?_⟩ fun y hy => ?_
  rotate_left 2
  · refine Sub.of ?_ ?_ ?_
    repeat' (first | (refine And.intro ?_ ?_) | exact trivial | exact fun _ _ _ => hsc _ _ | (exact congrArg intV (by first | with_reducible rfl | with_reducible assumption)) | exact (rfl : AV.idsLt _ _ = true) | exact (rfl : _ = AV.ren _ (.own _)) | exact (rfl : _ = AV.ren _ (.fn _ _)) | exact (rfl : _ = AV.ren _ (.gh _)) | (exact congrArg intV (by assumption)) | (refine congrArg intV ((wr_id (by omega) (by omega)).trans (by omega))) | exact rfl | (simp only [Int.toNat_natCast, Int.toNat_zero, Nat.sub_zero, Nat.zero_add]; first | exact rfl | done) | exact all0 | exact fun h => Bool.noConfusion h | exact fun _ _ _ _ => rfl | omega)
  obtain ⟨at_, o⟩ := y
  obtain ⟨y1, y2, y3⟩ := hy
  dsimp only at y1 y2 y3 ⊢
  have hol : o.length ≤ 256 := by
    have h1 := congrArg List.length y3
    rw [List.length_append, List.length_reverse, stp_len, stp_len] at h1
    have h2 := W.len t ht hb2
    omega
  have hb40 : e50.bytes = 24 := rfl
  have ha9 : (at_ : Int).toNat = at_ := rfl
  by_cases e0 : at_ = c0
  · subst e0
    have hbr : b at_ = -1 := W.rt
    rw [W.p0] at y3
    have y3 : o.reverse = stp at_ (P t) := y3
    conv => whnf
    repeat' (first
      | (refine NilG.mk fun bn hbn hbx => ?_; conv => whnf)
      | (refine Both.mk ?_ ?_ <;> conv => whnf)
      | ((first | (refine MkG.box 1 rfl rfl rfl (by decide) ?_) | (refine MkG.box 2 rfl rfl rfl (by decide) ?_) | (refine MkG.box 3 rfl rfl rfl (by decide) ?_) | (refine MkG.row ?_)); conv => whnf)
      | exact trivial
      | (refine Br.mk (fun hb => ?_) (fun hb => ?_) <;> (first | (exfalso; revert hb; decide) | ((try simp only [BL] at hb) <;> (try simp only [DL] at hb) <;> (first | (exfalso; omega) | (conv => whnf)))))
      | (refine And.intro ?_ ?_; (focus (first | exact id | exact rfl | exact trivial | (intro hg; first | exact hg | exact rfl | (simp; done) | (simp at hg ⊢; assumption)) | omega | decide | exact is2_c _ _ _ | exact is1_c _ _ | exact isS_c _ _ | exact isB_c _ _ | exact Nat.le_refl _ | assumption | exact mulLe (by decide) (by omega) | exact mulLe2 (by decide) (by omega) (by omega) | (intros; simp only [BL] at *; omega) | (intros; (try simp only [BL] at *); (try simp only [DL] at *); omega) | (intros; simp only [BL] at *; rw [wr_id (by omega) (by omega)]; omega) | (intro h1 h2; exact Bool.and_eq_true_iff.2 ⟨h1, h2⟩) | first | exact ⟨rfl, by omega, by decide⟩ | exact ⟨rfl, by rw [ha9]; omega, by decide⟩ | (intros; simp_all; done))); conv => whnf)
      | (refine Or.inr (And.intro rfl ?_); first | (refine congrArg intV ?_) | (refine congrArg boolV ?_) | (refine tupII ?_ ?_) | (refine tupIII ?_ ?_ ?_) | (refine tupU ?_ ?_ ?_ ?_ ?_) | exact rfl))
    · refine CallG.wr [1] rfl (FnM.mono (orRev X.nm o (by omega)) ?_)
      rintro obs r' ⟨rfl, rfl⟩
      rw [y3]
      conv => whnf
      repeat' (first
        | (refine NilG.mk fun bn hbn hbx => ?_; conv => whnf)
        | (refine Both.mk ?_ ?_ <;> conv => whnf)
        | ((first | (refine MkG.box 1 rfl rfl rfl (by decide) ?_) | (refine MkG.box 2 rfl rfl rfl (by decide) ?_) | (refine MkG.box 3 rfl rfl rfl (by decide) ?_) | (refine MkG.row ?_)); conv => whnf)
        | exact trivial
        | (refine Br.mk (fun hb => ?_) (fun hb => ?_) <;> (first | (exfalso; revert hb; decide) | ((try simp only [BL] at hb) <;> (try simp only [DL] at hb) <;> (first | (exfalso; omega) | (conv => whnf)))))
        | (refine And.intro ?_ ?_; (focus (first | exact id | exact rfl | exact trivial | (intro hg; first | exact hg | exact rfl | (simp; done) | (simp at hg ⊢; assumption)) | omega | decide | exact is2_c _ _ _ | exact is1_c _ _ | exact isS_c _ _ | exact isB_c _ _ | exact Nat.le_refl _ | assumption | exact mulLe (by decide) (by omega) | exact mulLe2 (by decide) (by omega) (by omega) | (intros; simp only [BL] at *; omega) | (intros; (try simp only [BL] at *); (try simp only [DL] at *); omega) | (intros; simp only [BL] at *; rw [wr_id (by omega) (by omega)]; omega) | (intro h1 h2; exact Bool.and_eq_true_iff.2 ⟨h1, h2⟩) | (intros; simp_all; done))); conv => whnf)
        | (refine Or.inr (And.intro rfl ?_); first | (refine congrArg intV ?_) | (refine congrArg boolV ?_) | (refine tupII ?_ ?_) | (refine tupIII ?_ ?_ ?_) | (refine tupU ?_ ?_ ?_ ?_ ?_) | exact rfl))
      exact .inr ⟨rfl, b, P, W, .inr ⟨hb2, rfl⟩⟩
  · obtain ⟨i, q1, q2, q3, q4, q5⟩ := W.pa at_ y1 y2 e0
    obtain ⟨p1, p2⟩ := W.path hc0 _ (at_ ^^^ 2 ^ i) rfl (xor_lt y1 q1) q3
    have hbq : b (at_ : Int).toNat = (i : Int) := q2
    have hxr : xorI .i64 (at_ : Int) (shlI .i64 1 (i : Int)) = ((at_ ^^^ 2 ^ i : Nat) : Int) := xor8 i (by omega) at_ (by omega)
    have hbt : (andI .i64 (shrI .i64 (at_ : Int) (i : Int)) 1 == 1) = at_.testBit i := bit8 i (by omega) at_ (by omega)
    have hin9 : i < X.n := q1
    conv => whnf
    repeat' (first
      | (refine NilG.mk fun bn hbn hbx => ?_; conv => whnf)
      | (refine Both.mk ?_ ?_ <;> conv => whnf)
      | ((first | (refine MkG.box 1 rfl rfl rfl (by decide) ?_) | (refine MkG.box 2 rfl rfl rfl (by decide) ?_) | (refine MkG.box 3 rfl rfl rfl (by decide) ?_) | (refine MkG.row ?_)); conv => whnf)
      | exact trivial
      | (refine Br.mk (fun hb => ?_) (fun hb => ?_) <;> (first | (exfalso; revert hb; decide) | ((try simp only [BL] at hb) <;> (try simp only [DL] at hb) <;> (first | (exfalso; omega) | (conv => whnf)))))
      | (refine And.intro ?_ ?_; (focus (first | exact id | exact rfl | exact trivial | (intro hg; first | exact hg | exact rfl | (simp; done) | (simp at hg ⊢; assumption)) | omega | decide | exact is2_c _ _ _ | exact is1_c _ _ | exact isS_c _ _ | exact isB_c _ _ | exact Nat.le_refl _ | assumption | exact mulLe (by decide) (by omega) | exact mulLe2 (by decide) (by omega) (by omega) | (intros; simp only [BL] at *; omega) | (intros; (try simp only [BL] at *); (try simp only [DL] at *); omega) | (intros; simp only [BL] at *; rw [wr_id (by omega) (by omega)]; omega) | (intro h1 h2; exact Bool.and_eq_true_iff.2 ⟨h1, h2⟩) | first | exact ⟨rfl, by omega, by decide⟩ | exact ⟨rfl, by rw [ha9]; omega, by decide⟩ | (rw [hb40]; omega) | (rw [hbq]; omega) | (rw [hbq]; exact ⟨rfl, by omega, by decide⟩) | (intros; simp_all; done))); conv => whnf)
      | (refine Or.inr (And.intro rfl ?_); first | (refine congrArg intV ?_) | (refine congrArg boolV ?_) | (refine tupII ?_ ?_) | (refine tupIII ?_ ?_ ?_) | (refine tupU ?_ ?_ ?_ ?_ ?_) | exact rfl))
    rw [hbq]
    have y3' : stp c0 (P (at_ ^^^ 2 ^ i)) ++ (o ++ [(at_.testBit i, i)]).reverse = stp c0 (P t) := by
      rw [← y3, q5, stp_app, p2, xor_back, List.reverse_append, List.append_assoc]
      rfl
    have hinv : at_ ^^^ 2 ^ i < 2 ^ X.n ∧ b (at_ ^^^ 2 ^ i) ≠ -2 ∧ stp c0 (P (at_ ^^^ 2 ^ i)) ++ (o ++ [(at_.testBit i, i)]).reverse = stp c0 (P t) := ⟨xor_lt y1 q1, q3, y3'⟩
    refine ⟨(at_ ^^^ 2 ^ i, o ++ [(at_.testBit i, i)]), [0, 3], hinv, (by show (P (at_ ^^^ 2 ^ i)).length < (P at_).length; rw [q5, List.length_append]; exact Nat.lt_succ_self _), ?_⟩
    refine Sub.of ?_ ?_ ?_
    repeat' (first | (refine And.intro ?_ ?_) | exact trivial | exact fun _ _ _ => hsc _ _ | (exact congrArg intV (by first | with_reducible rfl | with_reducible assumption)) | exact (rfl : AV.idsLt _ _ = true) | exact (rfl : _ = AV.ren _ (.own _)) | exact (rfl : _ = AV.ren _ (.fn _ _)) | exact (rfl : _ = AV.ren _ (.gh _)) | (exact congrArg intV (by assumption)) | (refine congrArg intV ((wr_id (by omega) (by omega)).trans (by omega))) | exact rfl | (simp only [Int.toNat_natCast, Int.toNat_zero, Nat.sub_zero, Nat.zero_add]; first | exact rfl | done) | exact all0 | exact fun h => Bool.noConfusion h | exact fun _ _ _ _ => rfl | omega)
    · show o.length + 1 = (o ++ [(at_.testBit i, i)]).length
      rw [List.length_append]; rfl
    · rw [hbt]; exact apO (nm := X.nm) (l := o) (x := (at_.testBit i, i))
end Go.Proofs.Ytemfikdogdadnaa
