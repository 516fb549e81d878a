/-
  Orders: the reference's Plan.
-/
import Derived.Test.YtemfikdogdadnaaOrE
namespace Go.Proofs.Ytemfikdogdadnaa
open Go.RowKit

/-- a list of steps, or nil for none -/
def trK (nm : Nat → ByteArray) (l : List (Bool × Nat)) (b : Bool) (obs : List OB) (r : AV) : Prop := obs = [] ∧ ((l = [] ∧ r = .tup [.c (.v (.slice none 0 0)), boolV b]) ∨ ∃ f, r = .tup [.c (.sl 2 l.length f), boolV b] ∧ ∀ k, k < l.length → ∀ j, j < 2 → f k j = cOs nm l k j)
theorem trK_res {P : Program} {f : FuncId} {bs : List AV} {nm : Nat → ByteArray} {l : List (Bool × Nat)} {b : Bool} (h : Fn P f bs (trK nm l b)) : Fn1 P f bs (.tup [.c (.sl 2 l.length (cOs nm l)), boolV b]) :=
  h.res fun obs r ⟨h1, h2⟩ => ⟨_, ⟨h1, rfl⟩, by
    rcases h2 with ⟨rfl, rfl⟩ | ⟨f, rfl, h3⟩
    · exact Le1.tup (Le.cons Le1.nil (Le.cons (Le1.refl _) Le.nil))
    · exact Le1.tup (Le.cons (Le1.sl h3) (Le.cons (Le1.refl _) Le.nil))⟩
theorem tri_gt {e : Nat → Nat → Bool} {n t k c : Nat} (h : apt c t n > k) : tri e n t k c = none := by
  cases k with
  | zero => exact if_pos h
  | succ k => exact if_pos h
theorem tri_0 {e : Nat → Nat → Bool} {n t c : Nat} (h : ¬ apt c t n > 0) : tri e n t 0 c = some [] := if_neg h
theorem tri_s {e : Nat → Nat → Bool} {n t k c : Nat} (h : ¬ apt c t n > k + 1) : tri e n t (k + 1) c = frst (fun i => if e c i = true then tri e n t k (c ^^^ 2 ^ i) else none) 0 n := if_neg h
theorem frst_no {g : Nat → Option (List Nat)} {i n : Nat} (hi : i < n) (h : g i = none) : frst g i (n - i) = frst g (i + 1) (n - (i + 1)) := by
  rw [show n - i = n - (i + 1) + 1 by omega]
  show (match g i with | some l => some (i :: l) | none => frst g (i + 1) (n - (i + 1))) = _
  rw [h]
theorem frst_yes {g : Nat → Option (List Nat)} {i n : Nat} {l : List Nat} (hi : i < n) (h : g i = some l) : frst g i (n - i) = some (i :: l) := by
  rw [show n - i = n - (i + 1) + 1 by omega]
  show (match g i with | some l => some (i :: l) | none => frst g (i + 1) (n - (i + 1))) = _
  rw [h]
/-- the steps of what is found -/
def trL (c : Nat) (o : Option (List Nat)) : List (Bool × Nat) := stp c (o.getD [])
def trG (X : OrX) (t k c : Nat) : Nat → Option (List Nat) := fun i => if X.e c i = true then tri X.e X.n t k (c ^^^ 2 ^ i) else none
theorem orFrb (X : OrX) (h : X.ok) (c i : Nat) : Fn1 Try.prog 95 [rlV X.r, stV (stC X.n X.nm c), boolV (!c.testBit i), strV (X.nm i)] (.c (.sl 1 (flN (fbB X.r (stC X.n X.nm c) (!c.testBit i) (X.nm i)) X.r.n) (c1 (flF (fbB X.r (stC X.n X.nm c) (!c.testBit i) (X.nm i)) X.r.n)))) :=
  Fn.mono (rfForbids X.r (stC X.n X.nm c) (!c.testBit i) (X.nm i) h.2.2.2.2.1 (X.st h c)) fun obs r h => h
theorem stC_clo (n : Nat) (nm : Nat → ByteArray) (c i : Nat) (f : Nat → Nat → L) (h : ∀ k, k < n → ∀ j, j < 2 → f k j = if k = i then (if 1 ≤ j ∧ j < 1 + 1 then ([bL (!c.testBit i)][j - 1]?).getD .un else cSt (stC n nm c) k j) else cSt (stC n nm c) k j) : ∀ k, k < n → ∀ j, j < 2 → f k j = cSt (stC n nm (c ^^^ 2 ^ i)) k j := fun k hk j hj => by
  rw [h k hk j hj]
  match j, hj with
  | 0, _ =>
    by_cases e : k = i
    · exact if_pos e
    · exact if_neg e
  | 1, _ =>
    show _ = bL ((c ^^^ 2 ^ i).testBit k)
    rw [tb_xor]
    by_cases e : k = i
    · refine (if_pos e).trans ?_
      subst e
      show bL _ = _
      rw [decide_eq_true rfl, Bool.xor_true]
    · refine (if_neg e).trans ?_
      show bL _ = _
      rw [decide_eq_false (fun h => e h.symm), Bool.xor_false]
set_option maxHeartbeats 4000000 in
theorem orTry0 (X : OrX) (t k : Nat) (hX : X.ok) (ht : t < 2 ^ X.n) (hk : k ≤ 100) (ih : ∀ k', k = k' + 1 → ∀ c, c < 2 ^ X.n → Fn1 Try.prog 60 [rlV X.r, stV (stC X.n X.nm c), stV (stC X.n X.nm t), .c (.sl 1 X.hN (cS X.H)), intV k'] (.tup [.c (.sl 2 (trL c (tri X.e X.n t k' c)).length (cOs X.nm (trL c (tri X.e X.n t k' c)))), boolV (tri X.e X.n t k' c).isSome])) (hlen : ∀ k' c, k = k' + 1 → c < 2 ^ X.n → (trL c (tri X.e X.n t k' c)).length ≤ 100) (c : Nat) (hc : c < 2 ^ X.n) : Fn Try.prog 60 [rlV X.r, stV (stC X.n X.nm c), stV (stC X.n X.nm t), .c (.sl 1 X.hN (cS X.H)), intV k] (trK X.nm (trL c (tri X.e X.n t k c)) (tri X.e X.n t k c).isSome) := by
  refine fn_of_wpx (O := lex) tab_ok gamOr_ok mixed Try.func60 (by kernel_rfl) rfl rfl rfl (by simp [Try.ntmps60]) (by kernel_rfl) ?_
  have hX9 := hX
  obtain ⟨hr, hnm, hHn, h8, hr0, hs0⟩ := hX9
  have h256 := pow_le8 h8
  conv => whnf
  repeat' (first
    | (refine NilG.mk fun bn hbn hbx => ?_; conv => whnf)
    | (refine Both.mk ?_ ?_ <;> conv => whnf)
    | ((first | (refine MkG.box 1 rfl rfl rfl (by decide) ?_) | (refine MkG.box 2 rfl rfl rfl (by decide) ?_) | (refine MkG.box 3 rfl rfl rfl (by decide) ?_) | (refine MkG.row ?_)); conv => whnf)
    | exact trivial
    | (refine Br.mk (fun hb => ?_) (fun hb => ?_) <;> (first | (exfalso; revert hb; decide) | ((try simp only [BL] at hb) <;> (try simp only [DL] at hb) <;> (first | (exfalso; omega) | (conv => whnf)))))
    | (refine And.intro ?_ ?_; (focus (first | exact id | exact rfl | exact trivial | (intro hg; first | exact hg | exact rfl | (simp; done) | (simp at hg ⊢; assumption)) | omega | decide | exact is2_c _ _ _ | exact is1_c _ _ | exact isS_c _ _ | exact isB_c _ _ | exact Nat.le_refl _ | assumption | exact mulLe (by decide) (by omega) | exact mulLe2 (by decide) (by omega) (by omega) | (intros; simp only [BL] at *; omega) | (intros; (try simp only [BL] at *); (try simp only [DL] at *); omega) | (intros; simp only [BL] at *; rw [wr_id (by omega) (by omega)]; omega) | (intro h1 h2; exact Bool.and_eq_true_iff.2 ⟨h1, h2⟩) | (intros; simp_all; done))); conv => whnf)
    | (refine Or.inr (And.intro rfl ?_); first | (refine congrArg intV ?_) | (refine congrArg boolV ?_) | (refine tupII ?_ ?_) | (refine tupIII ?_ ?_ ?_) | (refine tupU ?_ ?_ ?_ ?_ ?_) | exact rfl))
  refine sem_loop tab_ok gamOr_ok mixed (by kernel_rfl) (O := lex) (fun i : Nat => ⟨[(0, rlV X.r), (1, stV (stC X.n X.nm c)), (2, stV (stC X.n X.nm t)), (3, .c (.sl 1 X.hN (cS X.H))), (4, intV k), (12, intV (apt c t i)), (20, intV X.n), (21, intV i)], []⟩) (fun i => i ≤ X.n ∧ apt c t i ≤ i) (fun i => X.n - i) ⟨0, [], ⟨Nat.zero_le _, Nat.le_refl _⟩, ?_⟩ fun i hi => ?_
  · refine Sub.of ?_ ?_ ?_
    repeat' (first | (refine And.intro ?_ ?_) | exact trivial | exact fun _ _ _ => hsc _ _ | (exact congrArg intV (by first | with_reducible rfl | with_reducible assumption)) | exact (rfl : AV.idsLt _ _ = true) | exact (rfl : _ = AV.ren _ (.own _)) | exact (rfl : _ = AV.ren _ (.fn _ _)) | exact (rfl : _ = AV.ren _ (.gh _)) | (exact congrArg intV (by assumption)) | (refine congrArg intV ((wr_id (by omega) (by omega)).trans (by omega))) | exact rfl | (simp only [Int.toNat_natCast, Int.toNat_zero, Nat.sub_zero, Nat.zero_add]; first | exact rfl | done) | exact all0 | exact fun h => Bool.noConfusion h | exact fun _ _ _ _ => rfl | omega)
  obtain ⟨i1, i2⟩ := hi
  by_cases hin : i < X.n
  · conv => whnf
    repeat' (first
      | (refine NilG.mk fun bn hbn hbx => ?_; conv => whnf)
      | (refine Both.mk ?_ ?_ <;> conv => whnf)
      | ((first | (refine MkG.box 1 rfl rfl rfl (by decide) ?_) | (refine MkG.box 2 rfl rfl rfl (by decide) ?_) | (refine MkG.box 3 rfl rfl rfl (by decide) ?_) | (refine MkG.row ?_)); conv => whnf)
      | exact trivial
      | (refine Br.mk (fun hb => ?_) (fun hb => ?_) <;> (first | (exfalso; revert hb; decide) | ((try simp only [BL] at hb) <;> (try simp only [DL] at hb) <;> (first | (exfalso; omega) | (conv => whnf)))))
      | (refine And.intro ?_ ?_; (focus (first | exact id | exact rfl | exact trivial | (intro hg; first | exact hg | exact rfl | (simp; done) | (simp at hg ⊢; assumption)) | omega | decide | exact is2_c _ _ _ | exact is1_c _ _ | exact isS_c _ _ | exact isB_c _ _ | exact Nat.le_refl _ | assumption | exact mulLe (by decide) (by omega) | exact mulLe2 (by decide) (by omega) (by omega) | (intros; simp only [BL] at *; omega) | (intros; (try simp only [BL] at *); (try simp only [DL] at *); omega) | (intros; simp only [BL] at *; rw [wr_id (by omega) (by omega)]; omega) | (intro h1 h2; exact Bool.and_eq_true_iff.2 ⟨h1, h2⟩) | exact ⟨rfl, by omega, by decide⟩ | (intros; simp_all; done))); conv => whnf)
      | (refine Or.inr (And.intro rfl ?_); first | (refine congrArg intV ?_) | (refine congrArg boolV ?_) | (refine tupII ?_ ?_) | (refine tupIII ?_ ?_ ?_) | (refine tupU ?_ ?_ ?_ ?_ ?_) | exact rfl))
    · have hne : ¬ c.testBit i = t.testBit i := by
        rcases hb with h | h | h
        · rw [b_eq.2 rfl] at h; cases h
        · exact h
        · cases h
      have e1 : apt c t (i + 1) = apt c t i + 1 := by
        show apt c t i + (if c.testBit i = t.testBit i then 0 else 1) = _
        rw [if_neg hne]
      have e12 : IntKind.i64.wrap ((apt c t i : Int) + 1) = ((apt c t (i + 1) : Nat) : Int) := by rw [e1]; exact (wr_id (by omega) (by omega)).trans (by omega)
      refine ⟨i + 1, [], (by omega : i + 1 ≤ X.n ∧ apt c t (i + 1) ≤ i + 1), by omega, ?_⟩
      refine Sub.of ?_ ?_ ?_
      repeat' (first | (refine And.intro ?_ ?_) | exact trivial | exact fun _ _ _ => hsc _ _ | (exact congrArg intV (by first | with_reducible rfl | with_reducible assumption)) | exact (rfl : AV.idsLt _ _ = true) | exact (rfl : _ = AV.ren _ (.own _)) | exact (rfl : _ = AV.ren _ (.fn _ _)) | exact (rfl : _ = AV.ren _ (.gh _)) | (exact congrArg intV (by assumption)) | (refine congrArg intV ((wr_id (by omega) (by omega)).trans (by omega))) | exact rfl | (simp only [Int.toNat_natCast, Int.toNat_zero, Nat.sub_zero, Nat.zero_add]; first | exact rfl | done) | exact all0 | exact fun h => Bool.noConfusion h | exact fun _ _ _ _ => rfl | omega)
    · have e1 : apt c t (i + 1) = apt c t i := by
        show apt c t i + (if c.testBit i = t.testBit i then 0 else 1) = _
        rw [if_pos hb.2.1]; rfl
      have e12 : (apt c t i : Int) = ((apt c t (i + 1) : Nat) : Int) := by rw [e1]
      refine ⟨i + 1, [], (by omega : i + 1 ≤ X.n ∧ apt c t (i + 1) ≤ i + 1), by omega, ?_⟩
      refine Sub.of ?_ ?_ ?_
      repeat' (first | (refine And.intro ?_ ?_) | exact trivial | exact fun _ _ _ => hsc _ _ | (exact congrArg intV (by first | with_reducible rfl | with_reducible assumption)) | exact (rfl : AV.idsLt _ _ = true) | exact (rfl : _ = AV.ren _ (.own _)) | exact (rfl : _ = AV.ren _ (.fn _ _)) | exact (rfl : _ = AV.ren _ (.gh _)) | (exact congrArg intV (by assumption)) | (refine congrArg intV ((wr_id (by omega) (by omega)).trans (by omega))) | exact rfl | (simp only [Int.toNat_natCast, Int.toNat_zero, Nat.sub_zero, Nat.zero_add]; first | exact rfl | done) | exact all0 | exact fun h => Bool.noConfusion h | exact fun _ _ _ _ => rfl | omega)
  · obtain rfl : i = X.n := by omega
    conv => whnf
    repeat' (first
      | (refine NilG.mk fun bn hbn hbx => ?_; conv => whnf)
      | (refine Both.mk ?_ ?_ <;> conv => whnf)
      | ((first | (refine MkG.box 1 rfl rfl rfl (by decide) ?_) | (refine MkG.box 2 rfl rfl rfl (by decide) ?_) | (refine MkG.box 3 rfl rfl rfl (by decide) ?_) | (refine MkG.row ?_)); conv => whnf)
      | exact trivial
      | (refine Br.mk (fun hb => ?_) (fun hb => ?_) <;> (first | (exfalso; revert hb; decide) | ((try simp only [BL] at hb) <;> (try simp only [DL] at hb) <;> (first | (exfalso; omega) | (conv => whnf)))))
      | (refine And.intro ?_ ?_; (focus (first | exact id | exact rfl | exact trivial | (intro hg; first | exact hg | exact rfl | (simp; done) | (simp at hg ⊢; assumption)) | omega | decide | exact is2_c _ _ _ | exact is1_c _ _ | exact isS_c _ _ | exact isB_c _ _ | exact Nat.le_refl _ | assumption | exact mulLe (by decide) (by omega) | exact mulLe2 (by decide) (by omega) (by omega) | (intros; simp only [BL] at *; omega) | (intros; (try simp only [BL] at *); (try simp only [DL] at *); omega) | (intros; simp only [BL] at *; rw [wr_id (by omega) (by omega)]; omega) | (intro h1 h2; exact Bool.and_eq_true_iff.2 ⟨h1, h2⟩) | (intros; simp_all; done))); conv => whnf)
      | (refine Or.inr (And.intro rfl ?_); first | (refine congrArg intV ?_) | (refine congrArg boolV ?_) | (refine tupII ?_ ?_) | (refine tupIII ?_ ?_ ?_) | (refine tupU ?_ ?_ ?_ ?_ ?_) | exact rfl))
    · have e1 : tri X.e X.n t k c = none := tri_gt (by omega)
      refine .inr ⟨rfl, .inl ⟨?_, ?_⟩⟩
      · rw [e1]; rfl
      · rw [e1]; rfl
    · obtain rfl : k = 0 := by omega
      have e1 : tri X.e X.n t 0 c = some [] := tri_0 (by omega)
      refine .inr ⟨rfl, .inl ⟨?_, ?_⟩⟩
      · rw [e1]; rfl
      · rw [e1]; rfl
    obtain ⟨k, rfl⟩ : ∃ q, k = q + 1 := ⟨k - 1, by omega⟩
    have ih := ih k rfl
    have hlen := fun c => hlen k c rfl
    have e1 : tri X.e X.n t (k + 1) c = frst (fun i => if X.e c i = true then tri X.e X.n t k (c ^^^ 2 ^ i) else none) 0 X.n := tri_s (by omega)
    obtain ⟨g, hg⟩ : ∃ g, g = fun i => if X.e c i = true then tri X.e X.n t k (c ^^^ 2 ^ i) else none := ⟨_, rfl⟩
    rw [← hg] at e1
    refine sem_loop tab_ok gamOr_ok mixed (by kernel_rfl) (O := lex) (fun i : Nat => ⟨[(0, rlV X.r), (1, stV (stC X.n X.nm c)), (2, stV (stC X.n X.nm t)), (3, .c (.sl 1 X.hN (cS X.H))), (4, intV ((k + 1 : Nat) : Int)), (41, stV (stC X.n X.nm c)), (42, intV X.n), (43, intV i)], []⟩) (fun i => i ≤ X.n ∧ frst g 0 X.n = frst g i (X.n - i)) (fun i => X.n - i) ⟨0, [], ⟨Nat.zero_le _, rfl⟩, ?_⟩ fun i hi => ?_
    · refine Sub.of ?_ ?_ ?_
      repeat' (first | (refine And.intro ?_ ?_) | exact trivial | exact fun _ _ _ => hsc _ _ | (exact congrArg intV (by first | with_reducible rfl | with_reducible assumption)) | exact (rfl : AV.idsLt _ _ = true) | exact (rfl : _ = AV.ren _ (.own _)) | exact (rfl : _ = AV.ren _ (.fn _ _)) | exact (rfl : _ = AV.ren _ (.gh _)) | (exact congrArg intV (by assumption)) | (refine congrArg intV ((wr_id (by omega) (by omega)).trans (by omega))) | exact rfl | (simp only [Int.toNat_natCast, Int.toNat_zero, Nat.sub_zero, Nat.zero_add]; first | exact rfl | done) | exact all0 | exact fun h => Bool.noConfusion h | exact fun _ _ _ _ => rfl | omega)
    obtain ⟨i1, i2⟩ := hi
    by_cases hin : i < X.n
    rotate_left
    · obtain rfl : i = X.n := by omega
      rw [Nat.sub_self] at i2
      conv => whnf
      repeat' (first
        | (refine NilG.mk fun bn hbn hbx => ?_; conv => whnf)
        | (refine Both.mk ?_ ?_ <;> conv => whnf)
        | ((first | (refine MkG.box 1 rfl rfl rfl (by decide) ?_) | (refine MkG.box 2 rfl rfl rfl (by decide) ?_) | (refine MkG.box 3 rfl rfl rfl (by decide) ?_) | (refine MkG.row ?_)); conv => whnf)
        | exact trivial
        | (refine Br.mk (fun hb => ?_) (fun hb => ?_) <;> (first | (exfalso; revert hb; decide) | ((try simp only [BL] at hb) <;> (try simp only [DL] at hb) <;> (first | (exfalso; omega) | (conv => whnf)))))
        | (refine And.intro ?_ ?_; (focus (first | exact id | exact rfl | exact trivial | (intro hg; first | exact hg | exact rfl | (simp; done) | (simp at hg ⊢; assumption)) | omega | decide | exact is2_c _ _ _ | exact is1_c _ _ | exact isS_c _ _ | exact isB_c _ _ | exact Nat.le_refl _ | assumption | exact mulLe (by decide) (by omega) | exact mulLe2 (by decide) (by omega) (by omega) | (intros; simp only [BL] at *; omega) | (intros; (try simp only [BL] at *); (try simp only [DL] at *); omega) | (intros; simp only [BL] at *; rw [wr_id (by omega) (by omega)]; omega) | (intro h1 h2; exact Bool.and_eq_true_iff.2 ⟨h1, h2⟩) | (intros; simp_all; done))); conv => whnf)
        | (refine Or.inr (And.intro rfl ?_); first | (refine congrArg intV ?_) | (refine congrArg boolV ?_) | (refine tupII ?_ ?_) | (refine tupIII ?_ ?_ ?_) | (refine tupU ?_ ?_ ?_ ?_ ?_) | exact rfl))
      rw [e1, i2]
      exact .inr ⟨rfl, .inl ⟨rfl, rfl⟩⟩
    have e43 : IntKind.i64.wrap ((i : Int) + 1) = ((i + 1 : Nat) : Int) := (wr_id (by omega) (by omega)).trans (by omega)
    conv => whnf
    repeat' (first
      | (refine NilG.mk fun bn hbn hbx => ?_; conv => whnf)
      | (refine Both.mk ?_ ?_ <;> conv => whnf)
      | ((first | (refine MkG.box 1 rfl rfl rfl (by decide) ?_) | (refine MkG.box 2 rfl rfl rfl (by decide) ?_) | (refine MkG.box 3 rfl rfl rfl (by decide) ?_) | (refine MkG.row ?_)); conv => whnf)
      | exact trivial
      | (refine Br.mk (fun hb => ?_) (fun hb => ?_) <;> (first | (exfalso; revert hb; decide) | ((try simp only [BL] at hb) <;> (try simp only [DL] at hb) <;> (first | (exfalso; omega) | (conv => whnf)))))
      | (refine And.intro ?_ ?_; (focus (first | exact id | exact rfl | exact trivial | (intro hg; first | exact hg | exact rfl | (simp; done) | (simp at hg ⊢; assumption)) | omega | decide | exact is2_c _ _ _ | exact is1_c _ _ | exact isS_c _ _ | exact isB_c _ _ | exact Nat.le_refl _ | assumption | exact mulLe (by decide) (by omega) | exact mulLe2 (by decide) (by omega) (by omega) | (intros; simp only [BL] at *; omega) | (intros; (try simp only [BL] at *); (try simp only [DL] at *); omega) | (intros; simp only [BL] at *; rw [wr_id (by omega) (by omega)]; omega) | (intro h1 h2; exact Bool.and_eq_true_iff.2 ⟨h1, h2⟩) | first | exact ⟨rfl, by omega, by decide⟩ | exact ⟨isS_c _ _, hHn⟩ | (intros; simp_all; done))); conv => whnf)
      | (refine Or.inr (And.intro rfl ?_); first | (refine congrArg intV ?_) | (refine congrArg boolV ?_) | (refine tupII ?_ ?_) | (refine tupIII ?_ ?_ ?_) | (refine tupU ?_ ?_ ?_ ?_ ?_) | exact rfl))
    have hskip : X.e c i = false → frst g 0 X.n = frst g (i + 1) (X.n - (i + 1)) := fun he => i2.trans (frst_no hin (by rw [hg]; show (if X.e c i = true then _ else none) = none; rw [he]; rfl))
    refine And.intro (fun hgd => ?_) (fun hgd => ?_)
    · have hH : hasB X.H X.hN (X.nm i) = false := by
        cases h : hasB X.H X.hN (X.nm i) with
        | false => rfl
        | true =>
          have h : decide (fidx (sameN X.H (X.nm i)) X.hN ≥ 0) = true := h
          have hgd : (!decide (fidx (sameN X.H (X.nm i)) X.hN ≥ 0)) = true := hgd
          rw [h] at hgd
          cases hgd
      have heq : X.e c i = ((flN (fbB X.r (stC X.n X.nm c) (!c.testBit i) (X.nm i)) X.r.n : Int) == 0) := by
        unfold OrX.e
        rw [hH]
        rfl
      conv => whnf
      repeat' (first
        | (refine NilG.mk fun bn hbn hbx => ?_; conv => whnf)
        | (refine Both.mk ?_ ?_ <;> conv => whnf)
        | ((first | (refine MkG.box 1 rfl rfl rfl (by decide) ?_) | (refine MkG.box 2 rfl rfl rfl (by decide) ?_) | (refine MkG.box 3 rfl rfl rfl (by decide) ?_) | (refine MkG.row ?_)); conv => whnf)
        | exact trivial
        | (refine Br.mk (fun hb => ?_) (fun hb => ?_) <;> (first | (exfalso; revert hb; decide) | ((try simp only [BL] at hb) <;> (try simp only [DL] at hb) <;> (first | (exfalso; omega) | (conv => whnf)))))
        | (refine And.intro ?_ ?_; (focus (first | exact id | exact rfl | exact trivial | (intro hg; first | exact hg | exact rfl | (simp; done) | (simp at hg ⊢; assumption)) | omega | decide | exact is2_c _ _ _ | exact is1_c _ _ | exact isS_c _ _ | exact isB_c _ _ | exact Nat.le_refl _ | assumption | exact mulLe (by decide) (by omega) | exact mulLe2 (by decide) (by omega) (by omega) | (intros; simp only [BL] at *; omega) | (intros; (try simp only [BL] at *); (try simp only [DL] at *); omega) | (intros; simp only [BL] at *; rw [wr_id (by omega) (by omega)]; omega) | (intro h1 h2; exact Bool.and_eq_true_iff.2 ⟨h1, h2⟩) | (intros; simp_all; done))); conv => whnf)
        | (refine Or.inr (And.intro rfl ?_); first | (refine congrArg intV ?_) | (refine congrArg boolV ?_) | (refine tupII ?_ ?_) | (refine tupIII ?_ ?_ ?_) | (refine tupU ?_ ?_ ?_ ?_ ?_) | exact rfl))
      refine CallG.mk (Fn.mono (orFrb X hX c i) ?_)
      rintro obs r ⟨rfl, rfl⟩
      have hm37 : X.n * e37.bytes ≤ 140737488355328 := by rw [show e37.bytes = 24 from rfl]; omega
      conv => whnf
      repeat' (first
        | (refine NilG.mk fun bn hbn hbx => ?_; conv => whnf)
        | (refine Both.mk ?_ ?_ <;> conv => whnf)
        | ((first | (refine MkG.box 1 rfl rfl rfl (by decide) ?_) | (refine MkG.box 2 rfl rfl rfl (by decide) ?_) | (refine MkG.box 3 rfl rfl rfl (by decide) ?_) | (refine MkG.row ?_)); conv => whnf)
        | exact trivial
        | (refine Br.mk (fun hb => ?_) (fun hb => ?_) <;> (first | (exfalso; revert hb; decide) | ((try simp only [BL] at hb) <;> (try simp only [DL] at hb) <;> (first | (exfalso; omega) | (conv => whnf)))))
        | (refine And.intro ?_ ?_; (focus (first | exact id | exact rfl | exact trivial | (intro hg; first | exact hg | exact rfl | (simp; done) | (simp at hg ⊢; assumption)) | omega | decide | exact is2_c _ _ _ | exact is1_c _ _ | exact isS_c _ _ | exact isB_c _ _ | exact Nat.le_refl _ | assumption | exact mulLe (by decide) (by omega) | exact mulLe2 (by decide) (by omega) (by omega) | (intros; simp only [BL] at *; omega) | (intros; (try simp only [BL] at *); (try simp only [DL] at *); omega) | (intros; simp only [BL] at *; rw [wr_id (by omega) (by omega)]; omega) | (intro h1 h2; exact Bool.and_eq_true_iff.2 ⟨h1, h2⟩) | first | exact hm37 | exact ⟨rfl, by omega, by decide⟩ | (intros; simp_all; done))); conv => whnf)
        | (refine Or.inr (And.intro rfl ?_); first | (refine congrArg intV ?_) | (refine congrArg boolV ?_) | (refine tupII ?_ ?_) | (refine tupIII ?_ ?_ ?_) | (refine tupU ?_ ?_ ?_ ?_ ?_) | exact rfl))
      · have he : X.e c i = false := by
          rw [heq, beq_eq_false_iff_ne]
          have hb1 : fidx (sameN X.H (X.nm i)) X.hN ≥ 0 ∨ ((flN (fbB X.r (stC X.n X.nm c) (!c.testBit i) (X.nm i)) X.r.n : Nat) : Int) > 0 := hb
          rcases hb1 with h | h
          · unfold hasB at hH
            rw [decide_eq_false_iff_not] at hH
            exact absurd h hH
          · omega
        have hi2 := hskip he
        refine ⟨i + 1, [], ⟨by omega, hi2⟩, by omega, ?_⟩
        refine Sub.of ?_ ?_ ?_
        repeat' (first | (refine And.intro ?_ ?_) | exact trivial | exact fun _ _ _ => hsc _ _ | (exact congrArg intV (by first | with_reducible rfl | with_reducible assumption)) | exact (rfl : AV.idsLt _ _ = true) | exact (rfl : _ = AV.ren _ (.own _)) | exact (rfl : _ = AV.ren _ (.fn _ _)) | exact (rfl : _ = AV.ren _ (.gh _)) | (exact congrArg intV (by assumption)) | (refine congrArg intV ((wr_id (by omega) (by omega)).trans (by omega))) | exact rfl | (simp only [Int.toNat_natCast, Int.toNat_zero, Nat.sub_zero, Nat.zero_add]; first | exact rfl | done) | exact all0 | exact fun h => Bool.noConfusion h | exact fun _ _ _ _ => rfl | omega)
      · have he : X.e c i = true := by
          rw [heq, beq_iff_eq]
          have h := hb.2
          omega
        have ek : IntKind.i64.wrap (((k + 1 : Nat) : Int) - 1) = (k : Int) := (wr_id (by omega) (by omega)).trans (by omega)
        rw [ek]
        refine CallG.mk (Fn.mono ((ih (c ^^^ 2 ^ i) (xor_lt hc hin)).le (Le.cons (Le1.refl _) (Le.cons (Le1.sl (stC_clo X.n X.nm c i _ fun _ _ _ _ => rfl)) (Le.cons (Le1.refl _) (Le.cons (Le1.refl _) (Le.cons (Le1.refl _) Le.nil)))))) ?_)
        rintro obs r ⟨rfl, rfl⟩
        have hl9 := hlen (c ^^^ 2 ^ i) (xor_lt hc hin)
        have hgi : g i = tri X.e X.n t k (c ^^^ 2 ^ i) := by rw [hg]; exact if_pos he
        have hb40 : e50.bytes = 24 := rfl
        conv => whnf
        repeat' (first
          | (refine NilG.mk fun bn hbn hbx => ?_; conv => whnf)
          | (refine Both.mk ?_ ?_ <;> conv => whnf)
          | ((first | (refine MkG.box 1 rfl rfl rfl (by decide) ?_) | (refine MkG.box 2 rfl rfl rfl (by decide) ?_) | (refine MkG.box 3 rfl rfl rfl (by decide) ?_) | (refine MkG.row ?_)); conv => whnf)
          | exact trivial
          | (refine Br.mk (fun hb => ?_) (fun hb => ?_) <;> (first | (exfalso; revert hb; decide) | ((try simp only [BL] at hb) <;> (try simp only [DL] at hb) <;> (first | (exfalso; omega) | (conv => whnf)))))
          | (refine And.intro ?_ ?_; (focus (first | exact id | exact rfl | exact trivial | (intro hg; first | exact hg | exact rfl | (simp; done) | (simp at hg ⊢; assumption)) | omega | decide | exact is2_c _ _ _ | exact is1_c _ _ | exact isS_c _ _ | exact isB_c _ _ | exact Nat.le_refl _ | assumption | exact mulLe (by decide) (by omega) | exact mulLe2 (by decide) (by omega) (by omega) | (intros; simp only [BL] at *; omega) | (intros; (try simp only [BL] at *); (try simp only [DL] at *); omega) | (intros; simp only [BL] at *; rw [wr_id (by omega) (by omega)]; omega) | (intro h1 h2; exact Bool.and_eq_true_iff.2 ⟨h1, h2⟩) | first | exact ⟨rfl, by omega, by decide⟩ | (rw [hb40]; omega) | (intros; simp_all; done))); conv => whnf)
          | (refine Or.inr (And.intro rfl ?_); first | (refine congrArg intV ?_) | (refine congrArg boolV ?_) | (refine tupII ?_ ?_) | (refine tupIII ?_ ?_ ?_) | (refine tupU ?_ ?_ ?_ ?_ ?_) | exact rfl))
        · obtain ⟨l', hl'⟩ := Option.isSome_iff_exists.1 hb
          rw [hl'] at hl9 ⊢
          have e : tri X.e X.n t (k + 1) c = some (i :: l') := e1.trans (i2.trans (frst_yes hin (hgi.trans hl')))
          have hl8 : 1 + (stp (c ^^^ 2 ^ i) l').length = (trL c (some (i :: l'))).length := by
            show 1 + _ = _ + 1
            omega
          refine .inr ⟨rfl, .inr ⟨fun k j => if k < 1 then (([bL (!c.testBit i), sL (X.nm i)] : List L)[k * 2 + j]?).getD (.v undef) else cOs X.nm (stp (c ^^^ 2 ^ i) l') (k - 1) j, ?_, ?_⟩⟩
          · rw [e, ← hl8]
            rfl
          · rw [e]
            intro k hk j hj
            match k with
            | 0 =>
              match j, hj with
              | 0, _ =>
                show bL (!c.testBit i) = bL ((c ^^^ 2 ^ i).testBit i)
                rw [tb_xor, decide_eq_true rfl, Bool.xor_true]
              | 1, _ => rfl
            | k + 1 => rfl
        · have hno : g i = none := by
            rw [hgi]
            cases h : tri X.e X.n t k (c ^^^ 2 ^ i) with
            | none => rfl
            | some l => rw [h] at hb; cases hb
          have hi2 := i2.trans (frst_no hin hno)
          refine ⟨i + 1, [], ⟨by omega, hi2⟩, by omega, ?_⟩
          refine Sub.of ?_ ?_ ?_
          repeat' (first | (refine And.intro ?_ ?_) | exact trivial | exact fun _ _ _ => hsc _ _ | (exact congrArg intV (by first | with_reducible rfl | with_reducible assumption)) | exact (rfl : AV.idsLt _ _ = true) | exact (rfl : _ = AV.ren _ (.own _)) | exact (rfl : _ = AV.ren _ (.fn _ _)) | exact (rfl : _ = AV.ren _ (.gh _)) | (exact congrArg intV (by assumption)) | (refine congrArg intV ((wr_id (by omega) (by omega)).trans (by omega))) | exact rfl | (simp only [Int.toNat_natCast, Int.toNat_zero, Nat.sub_zero, Nat.zero_add]; first | exact rfl | done) | exact all0 | exact fun h => Bool.noConfusion h | exact fun _ _ _ _ => rfl | omega)
    · have hH : hasB X.H X.hN (X.nm i) = true := by
        have hgd : (!decide (fidx (sameN X.H (X.nm i)) X.hN ≥ 0)) = false := hgd
        rwa [Bool.not_eq_false'] at hgd
      have he : X.e c i = false := by
        unfold OrX.e
        rw [hH]
        rfl
      rw [hgd]
      conv => whnf
      repeat' (first
        | (refine NilG.mk fun bn hbn hbx => ?_; conv => whnf)
        | (refine Both.mk ?_ ?_ <;> conv => whnf)
        | ((first | (refine MkG.box 1 rfl rfl rfl (by decide) ?_) | (refine MkG.box 2 rfl rfl rfl (by decide) ?_) | (refine MkG.box 3 rfl rfl rfl (by decide) ?_) | (refine MkG.row ?_)); conv => whnf)
        | exact trivial
        | (refine Br.mk (fun hb => ?_) (fun hb => ?_) <;> (first | (exfalso; revert hb; decide) | ((try simp only [BL] at hb) <;> (try simp only [DL] at hb) <;> (first | (exfalso; omega) | (conv => whnf)))))
        | (refine And.intro ?_ ?_; (focus (first | exact id | exact rfl | exact trivial | (intro hg; first | exact hg | exact rfl | (simp; done) | (simp at hg ⊢; assumption)) | omega | decide | exact is2_c _ _ _ | exact is1_c _ _ | exact isS_c _ _ | exact isB_c _ _ | exact Nat.le_refl _ | assumption | exact mulLe (by decide) (by omega) | exact mulLe2 (by decide) (by omega) (by omega) | (intros; simp only [BL] at *; omega) | (intros; (try simp only [BL] at *); (try simp only [DL] at *); omega) | (intros; simp only [BL] at *; rw [wr_id (by omega) (by omega)]; omega) | (intro h1 h2; exact Bool.and_eq_true_iff.2 ⟨h1, h2⟩) | (intros; simp_all; done))); conv => whnf)
        | (refine Or.inr (And.intro rfl ?_); first | (refine congrArg intV ?_) | (refine congrArg boolV ?_) | (refine tupII ?_ ?_) | (refine tupIII ?_ ?_ ?_) | (refine tupU ?_ ?_ ?_ ?_ ?_) | exact rfl))
      repeat
        refine fun _ => ?_
        conv => whnf
        repeat' (first
          | (refine NilG.mk fun bn hbn hbx => ?_; conv => whnf)
          | (refine Both.mk ?_ ?_ <;> conv => whnf)
          | ((first | (refine MkG.box 1 rfl rfl rfl (by decide) ?_) | (refine MkG.box 2 rfl rfl rfl (by decide) ?_) | (refine MkG.box 3 rfl rfl rfl (by decide) ?_) | (refine MkG.row ?_)); conv => whnf)
          | exact trivial
          | (refine Br.mk (fun hb => ?_) (fun hb => ?_) <;> (first | (exfalso; revert hb; decide) | ((try simp only [BL] at hb) <;> (try simp only [DL] at hb) <;> (first | (exfalso; omega) | (conv => whnf)))))
          | (refine And.intro ?_ ?_; (focus (first | exact id | exact rfl | exact trivial | (intro hg; first | exact hg | exact rfl | (simp; done) | (simp at hg ⊢; assumption)) | omega | decide | exact is2_c _ _ _ | exact is1_c _ _ | exact isS_c _ _ | exact isB_c _ _ | exact Nat.le_refl _ | assumption | exact mulLe (by decide) (by omega) | exact mulLe2 (by decide) (by omega) (by omega) | (intros; simp only [BL] at *; omega) | (intros; (try simp only [BL] at *); (try simp only [DL] at *); omega) | (intros; simp only [BL] at *; rw [wr_id (by omega) (by omega)]; omega) | (intro h1 h2; exact Bool.and_eq_true_iff.2 ⟨h1, h2⟩) | (intros; simp_all; done))); conv => whnf)
          | (refine Or.inr (And.intro rfl ?_); first | (refine congrArg intV ?_) | (refine congrArg boolV ?_) | (refine tupII ?_ ?_) | (refine tupIII ?_ ?_ ?_) | (refine tupU ?_ ?_ ?_ ?_ ?_) | exact rfl))
      have hi2 := hskip he
      refine ⟨i + 1, [], ⟨by omega, hi2⟩, by omega, ?_⟩
      refine Sub.of ?_ ?_ ?_
      repeat' (first | (refine And.intro ?_ ?_) | exact trivial | exact fun _ _ _ => hsc _ _ | (exact congrArg intV (by first | with_reducible rfl | with_reducible assumption)) | exact (rfl : AV.idsLt _ _ = true) | exact (rfl : _ = AV.ren _ (.own _)) | exact (rfl : _ = AV.ren _ (.fn _ _)) | exact (rfl : _ = AV.ren _ (.gh _)) | (exact congrArg intV (by assumption)) | (refine congrArg intV ((wr_id (by omega) (by omega)).trans (by omega))) | exact rfl | (simp only [Int.toNat_natCast, Int.toNat_zero, Nat.sub_zero, Nat.zero_add]; first | exact rfl | done) | exact all0 | exact fun h => Bool.noConfusion h | exact fun _ _ _ _ => rfl | omega)
theorem tri_len {e : Nat → Nat → Bool} {n t : Nat} (hn : n ≤ 8) (ht : t < 2 ^ n) {k c : Nat} (hc : c < 2 ^ n) : (trL c (tri e n t k c)).length ≤ k := by
  unfold trL
  rw [stp_len]
  cases h : tri e n t k c with
  | none => exact Nat.zero_le _
  | some l => exact Nat.le_of_eq (tri_some hn ht hc h).1
theorem orTry (X : OrX) (t : Nat) (hX : X.ok) (ht : t < 2 ^ X.n) : ∀ k : Nat, k ≤ 100 → ∀ c, c < 2 ^ X.n → Fn1 Try.prog 60 [rlV X.r, stV (stC X.n X.nm c), stV (stC X.n X.nm t), .c (.sl 1 X.hN (cS X.H)), intV k] (.tup [.c (.sl 2 (trL c (tri X.e X.n t k c)).length (cOs X.nm (trL c (tri X.e X.n t k c)))), boolV (tri X.e X.n t k c).isSome]) := by
  intro k
  induction k with
  | zero => exact fun hk c hc => trK_res (orTry0 X t 0 hX ht hk (fun k' h => by omega) (fun k' c h => by omega) c hc)
  | succ k ih => exact fun hk c hc => trK_res (orTry0 X t (k + 1) hX ht hk (fun k' h => by
      obtain rfl : k' = k := by omega
      exact ih (by omega)) (fun k' c h h2 => by
      have := tri_len (e := X.e) hX.2.2.2.1 ht (k := k') h2
      omega) c hc)
theorem orPlnR (X : OrX) (c t : Nat) (hX : X.ok) (hc : c < 2 ^ X.n) (ht : t < 2 ^ X.n) : Fn Try.prog 27 [rlV X.r, stV (stC X.n X.nm c), stV (stC X.n X.nm t), .c (.sl 1 X.hN (cS X.H)), intV 7] (fun obs r => obs = [] ∧ ((plnR X.e X.n t c 0 8 = none ∧ r = .tup [.c (.v (.slice none 0 0)), boolV false]) ∨ ∃ l, plnR X.e X.n t c 0 8 = some l ∧ r = .tup [.c (.sl 2 (stp c l).length (cOs X.nm (stp c l))), boolV true])) := by
  refine fn_of_wpx (O := lex) tab_ok (Γ := fun _ => none) (fun _ _ h => by cases h) mixed Try.func27 (by kernel_rfl) rfl rfl rfl (by simp [Try.ntmps27]) (by kernel_rfl) ?_
  conv => whnf
  repeat' (first
    | (refine NilG.mk fun bn hbn hbx => ?_; conv => whnf)
    | (refine Both.mk ?_ ?_ <;> conv => whnf)
    | ((first | (refine MkG.box 1 rfl rfl rfl (by decide) ?_) | (refine MkG.box 2 rfl rfl rfl (by decide) ?_) | (refine MkG.box 3 rfl rfl rfl (by decide) ?_) | (refine MkG.row ?_)); conv => whnf)
    | exact trivial
    | (refine Br.mk (fun hb => ?_) (fun hb => ?_) <;> (first | (exfalso; revert hb; decide) | ((try simp only [BL] at hb) <;> (try simp only [DL] at hb) <;> (first | (exfalso; omega) | (conv => whnf)))))
    | (refine And.intro ?_ ?_; (focus (first | exact id | exact rfl | exact trivial | (intro hg; first | exact hg | exact rfl | (simp; done) | (simp at hg ⊢; assumption)) | omega | decide | exact is2_c _ _ _ | exact is1_c _ _ | exact isS_c _ _ | exact isB_c _ _ | exact Nat.le_refl _ | assumption | exact mulLe (by decide) (by omega) | exact mulLe2 (by decide) (by omega) (by omega) | (intros; simp only [BL] at *; omega) | (intros; (try simp only [BL] at *); (try simp only [DL] at *); omega) | (intros; simp only [BL] at *; rw [wr_id (by omega) (by omega)]; omega) | (intro h1 h2; exact Bool.and_eq_true_iff.2 ⟨h1, h2⟩) | (intros; simp_all; done))); conv => whnf)
    | (refine Or.inr (And.intro rfl ?_); first | (refine congrArg intV ?_) | (refine congrArg boolV ?_) | (refine tupII ?_ ?_) | (refine tupIII ?_ ?_ ?_) | (refine tupU ?_ ?_ ?_ ?_ ?_) | exact rfl))
  refine sem_loop tab_ok gamN1_ok mixed (by kernel_rfl) (O := lex) (fun i : Nat => ⟨[(0, rlV X.r), (1, stV (stC X.n X.nm c)), (2, stV (stC X.n X.nm t)), (3, .c (.sl 1 X.hN (cS X.H))), (4, intV 7), (12, intV i)], []⟩) (fun i => i ≤ 8 ∧ plnR X.e X.n t c 0 8 = plnR X.e X.n t c i (8 - i)) (fun i => 8 - i) ⟨0, [], ⟨Nat.zero_le _, rfl⟩, ?_⟩ fun i hi => ?_
  · refine Sub.of ?_ ?_ ?_
    repeat' (first | (refine And.intro ?_ ?_) | exact trivial | exact fun _ _ _ => hsc _ _ | (exact congrArg intV (by first | with_reducible rfl | with_reducible assumption)) | exact (rfl : AV.idsLt _ _ = true) | exact (rfl : _ = AV.ren _ (.own _)) | exact (rfl : _ = AV.ren _ (.fn _ _)) | exact (rfl : _ = AV.ren _ (.gh _)) | (exact congrArg intV (by assumption)) | (refine congrArg intV ((wr_id (by omega) (by omega)).trans (by omega))) | exact rfl | (simp only [Int.toNat_natCast, Int.toNat_zero, Nat.sub_zero, Nat.zero_add]; first | exact rfl | done) | exact all0 | exact fun h => Bool.noConfusion h | exact fun _ _ _ _ => rfl | omega)
  obtain ⟨i1, i2⟩ := hi
  by_cases hin : i < 8
  · have es : plnR X.e X.n t c i (8 - i) = match tri X.e X.n t i c with
      | some l => some l
      | none => plnR X.e X.n t c (i + 1) (8 - (i + 1)) := by
      rw [show 8 - i = 8 - (i + 1) + 1 by omega]
      rfl
    conv => whnf
    repeat' (first
      | (refine NilG.mk fun bn hbn hbx => ?_; conv => whnf)
      | (refine Both.mk ?_ ?_ <;> conv => whnf)
      | ((first | (refine MkG.box 1 rfl rfl rfl (by decide) ?_) | (refine MkG.box 2 rfl rfl rfl (by decide) ?_) | (refine MkG.box 3 rfl rfl rfl (by decide) ?_) | (refine MkG.row ?_)); conv => whnf)
      | exact trivial
      | (refine Br.mk (fun hb => ?_) (fun hb => ?_) <;> (first | (exfalso; revert hb; decide) | ((try simp only [BL] at hb) <;> (try simp only [DL] at hb) <;> (first | (exfalso; omega) | (conv => whnf)))))
      | (refine And.intro ?_ ?_; (focus (first | exact id | exact rfl | exact trivial | (intro hg; first | exact hg | exact rfl | (simp; done) | (simp at hg ⊢; assumption)) | omega | decide | exact is2_c _ _ _ | exact is1_c _ _ | exact isS_c _ _ | exact isB_c _ _ | exact Nat.le_refl _ | assumption | exact mulLe (by decide) (by omega) | exact mulLe2 (by decide) (by omega) (by omega) | (intros; simp only [BL] at *; omega) | (intros; (try simp only [BL] at *); (try simp only [DL] at *); omega) | (intros; simp only [BL] at *; rw [wr_id (by omega) (by omega)]; omega) | (intro h1 h2; exact Bool.and_eq_true_iff.2 ⟨h1, h2⟩) | (intros; simp_all; done))); conv => whnf)
      | (refine Or.inr (And.intro rfl ?_); first | (refine congrArg intV ?_) | (refine congrArg boolV ?_) | (refine tupII ?_ ?_) | (refine tupIII ?_ ?_ ?_) | (refine tupU ?_ ?_ ?_ ?_ ?_) | exact rfl))
    refine CallG.mk (Fn.mono (orTry X t hX ht i (by omega) c hc) ?_)
    rintro obs r ⟨rfl, rfl⟩
    cases h : tri X.e X.n t i c with
    | none =>
      rw [h] at es
      conv => whnf
      repeat' (first
        | (refine NilG.mk fun bn hbn hbx => ?_; conv => whnf)
        | (refine Both.mk ?_ ?_ <;> conv => whnf)
        | ((first | (refine MkG.box 1 rfl rfl rfl (by decide) ?_) | (refine MkG.box 2 rfl rfl rfl (by decide) ?_) | (refine MkG.box 3 rfl rfl rfl (by decide) ?_) | (refine MkG.row ?_)); conv => whnf)
        | exact trivial
        | (refine Br.mk (fun hb => ?_) (fun hb => ?_) <;> (first | (exfalso; revert hb; decide) | ((try simp only [BL] at hb) <;> (try simp only [DL] at hb) <;> (first | (exfalso; omega) | (conv => whnf)))))
        | (refine And.intro ?_ ?_; (focus (first | exact id | exact rfl | exact trivial | (intro hg; first | exact hg | exact rfl | (simp; done) | (simp at hg ⊢; assumption)) | omega | decide | exact is2_c _ _ _ | exact is1_c _ _ | exact isS_c _ _ | exact isB_c _ _ | exact Nat.le_refl _ | assumption | exact mulLe (by decide) (by omega) | exact mulLe2 (by decide) (by omega) (by omega) | (intros; simp only [BL] at *; omega) | (intros; (try simp only [BL] at *); (try simp only [DL] at *); omega) | (intros; simp only [BL] at *; rw [wr_id (by omega) (by omega)]; omega) | (intro h1 h2; exact Bool.and_eq_true_iff.2 ⟨h1, h2⟩) | (intros; simp_all; done))); conv => whnf)
        | (refine Or.inr (And.intro rfl ?_); first | (refine congrArg intV ?_) | (refine congrArg boolV ?_) | (refine tupII ?_ ?_) | (refine tupIII ?_ ?_ ?_) | (refine tupU ?_ ?_ ?_ ?_ ?_) | exact rfl))
      have hi2 := i2.trans es
      refine ⟨i + 1, [], ⟨by omega, hi2⟩, by omega, ?_⟩
      refine Sub.of ?_ ?_ ?_
      repeat' (first | (refine And.intro ?_ ?_) | exact trivial | exact fun _ _ _ => hsc _ _ | (exact congrArg intV (by first | with_reducible rfl | with_reducible assumption)) | exact (rfl : AV.idsLt _ _ = true) | exact (rfl : _ = AV.ren _ (.own _)) | exact (rfl : _ = AV.ren _ (.fn _ _)) | exact (rfl : _ = AV.ren _ (.gh _)) | (exact congrArg intV (by assumption)) | (refine congrArg intV ((wr_id (by omega) (by omega)).trans (by omega))) | exact rfl | (simp only [Int.toNat_natCast, Int.toNat_zero, Nat.sub_zero, Nat.zero_add]; first | exact rfl | done) | exact all0 | exact fun h => Bool.noConfusion h | exact fun _ _ _ _ => rfl | omega)
    | some l =>
      rw [h] at es
      conv => whnf
      repeat' (first
        | (refine NilG.mk fun bn hbn hbx => ?_; conv => whnf)
        | (refine Both.mk ?_ ?_ <;> conv => whnf)
        | ((first | (refine MkG.box 1 rfl rfl rfl (by decide) ?_) | (refine MkG.box 2 rfl rfl rfl (by decide) ?_) | (refine MkG.box 3 rfl rfl rfl (by decide) ?_) | (refine MkG.row ?_)); conv => whnf)
        | exact trivial
        | (refine Br.mk (fun hb => ?_) (fun hb => ?_) <;> (first | (exfalso; revert hb; decide) | ((try simp only [BL] at hb) <;> (try simp only [DL] at hb) <;> (first | (exfalso; omega) | (conv => whnf)))))
        | (refine And.intro ?_ ?_; (focus (first | exact id | exact rfl | exact trivial | (intro hg; first | exact hg | exact rfl | (simp; done) | (simp at hg ⊢; assumption)) | omega | decide | exact is2_c _ _ _ | exact is1_c _ _ | exact isS_c _ _ | exact isB_c _ _ | exact Nat.le_refl _ | assumption | exact mulLe (by decide) (by omega) | exact mulLe2 (by decide) (by omega) (by omega) | (intros; simp only [BL] at *; omega) | (intros; (try simp only [BL] at *); (try simp only [DL] at *); omega) | (intros; simp only [BL] at *; rw [wr_id (by omega) (by omega)]; omega) | (intro h1 h2; exact Bool.and_eq_true_iff.2 ⟨h1, h2⟩) | (intros; simp_all; done))); conv => whnf)
        | (refine Or.inr (And.intro rfl ?_); first | (refine congrArg intV ?_) | (refine congrArg boolV ?_) | (refine tupII ?_ ?_) | (refine tupIII ?_ ?_ ?_) | (refine tupU ?_ ?_ ?_ ?_ ?_) | exact rfl))
      · exact .inr ⟨rfl, .inr ⟨l, i2.trans es, rfl⟩⟩
      · cases hb
  · obtain rfl : i = 8 := by omega
    conv => whnf
    repeat' (first
      | (refine NilG.mk fun bn hbn hbx => ?_; conv => whnf)
      | (refine Both.mk ?_ ?_ <;> conv => whnf)
      | ((first | (refine MkG.box 1 rfl rfl rfl (by decide) ?_) | (refine MkG.box 2 rfl rfl rfl (by decide) ?_) | (refine MkG.box 3 rfl rfl rfl (by decide) ?_) | (refine MkG.row ?_)); conv => whnf)
      | exact trivial
      | (refine Br.mk (fun hb => ?_) (fun hb => ?_) <;> (first | (exfalso; revert hb; decide) | ((try simp only [BL] at hb) <;> (try simp only [DL] at hb) <;> (first | (exfalso; omega) | (conv => whnf)))))
      | (refine And.intro ?_ ?_; (focus (first | exact id | exact rfl | exact trivial | (intro hg; first | exact hg | exact rfl | (simp; done) | (simp at hg ⊢; assumption)) | omega | decide | exact is2_c _ _ _ | exact is1_c _ _ | exact isS_c _ _ | exact isB_c _ _ | exact Nat.le_refl _ | assumption | exact mulLe (by decide) (by omega) | exact mulLe2 (by decide) (by omega) (by omega) | (intros; simp only [BL] at *; omega) | (intros; (try simp only [BL] at *); (try simp only [DL] at *); omega) | (intros; simp only [BL] at *; rw [wr_id (by omega) (by omega)]; omega) | (intro h1 h2; exact Bool.and_eq_true_iff.2 ⟨h1, h2⟩) | (intros; simp_all; done))); conv => whnf)
      | (refine Or.inr (And.intro rfl ?_); first | (refine congrArg intV ?_) | (refine congrArg boolV ?_) | (refine tupII ?_ ?_) | (refine tupIII ?_ ?_ ?_) | (refine tupU ?_ ?_ ?_ ?_ ?_) | exact rfl))
    exact .inr ⟨rfl, .inl ⟨i2, rfl⟩⟩
end Go.Proofs.Ytemfikdogdadnaa
