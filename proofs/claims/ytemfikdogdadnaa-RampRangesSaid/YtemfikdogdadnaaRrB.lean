/-
  Ramps: reach and Range, walked.
-/
import Derived.Test.YtemfikdogdadnaaRrA
namespace Go.Proofs.Ytemfikdogdadnaa
open Go.RowKit

def reK (s : Rmr) (obs : List OB) (r : AV) : Prop := obs = [] ∧ ((rFine s s.m ∧ r = .tup [.c (.sl 2 s.m (c2 (fun j => cL s (s.m - 1 - j)) fun j => cH s (s.m - 1 - j))), boolV true]) ∨ (¬ rFine s s.m ∧ r = .tup [.c (.v (.slice none 0 0)), boolV false]))
set_option maxHeartbeats 4000000 in
theorem rrReach0 (s : Rmr) (hok : rrOk s) (hm : s.m ≤ 24) : Fn Try.prog 35 [.c (.sl 2 s.m (c2 s.lo s.hi)), intV s.now, intV s.up, intV s.dn] (fun obs r => ∃ r', reK s obs r' ∧ Le1 r r') := by
  refine fn_of_wpx (O := lex) tab_ok gamN1_ok mixed Try.func35 (by kernel_rfl) rfl rfl rfl (by simp [Try.ntmps35]) (by kernel_rfl) ?_
  conv => whnf
  repeat' (first
    | (refine NilG.mk fun bn hbn hbx => ?_; conv => whnf)
    | (refine Both.mk ?_ ?_ <;> conv => whnf)
    | ((first | (refine MkG.box 1 rfl rfl rfl (by decide) ?_) | (refine MkG.box 2 rfl rfl rfl (by decide) ?_) | (refine MkG.box 3 rfl rfl rfl (by decide) ?_) | (refine MkG.row ?_)); conv => whnf)
    | (refine LitG.row ?_; conv => whnf)
    | exact trivial
    | (refine Br.mk (fun hb => ?_) (fun hb => ?_) <;> (first | (exfalso; revert hb; decide) | ((try simp only [BL] at hb) <;> (try simp only [DL] at hb) <;> conv => whnf)))
    | (refine And.intro ?_ ?_; (focus (first | exact id | exact rfl | exact trivial | (intro hg; first | exact hg | exact rfl | (simp; done) | (simp at hg ⊢; assumption)) | omega | decide | exact is2_c _ _ _ | exact is1_c _ _ | exact isS_c _ _ | exact isB_c _ _ | exact Nat.le_refl _ | assumption | exact mulLe (by decide) (by omega) | exact mulLe2 (by decide) (by omega) (by omega) | (intros; simp only [BL] at *; omega) | (intros; (try simp only [BL] at *); (try simp only [DL] at *); omega) | (intros; simp only [BL] at *; rw [wr_id (by omega) (by omega)]; omega) | (intro h1 h2; exact Bool.and_eq_true_iff.2 ⟨h1, h2⟩) | (intros; simp_all; done))); conv => whnf)
    | (refine Or.inr (And.intro rfl ?_); first | (refine congrArg intV ?_) | (refine congrArg boolV ?_) | (refine tupII ?_ ?_) | (refine tupIII ?_ ?_ ?_) | (refine tupU ?_ ?_ ?_ ?_ ?_) | exact rfl))
  refine CallG.mk (Fn.mono (rrCl s.m s.lo s.hi (by omega)) ?_)
  rintro obs r ⟨rfl, rfl⟩
  conv => whnf
  repeat' (first
    | (refine NilG.mk fun bn hbn hbx => ?_; conv => whnf)
    | (refine Both.mk ?_ ?_ <;> conv => whnf)
    | ((first | (refine MkG.box 1 rfl rfl rfl (by decide) ?_) | (refine MkG.box 2 rfl rfl rfl (by decide) ?_) | (refine MkG.box 3 rfl rfl rfl (by decide) ?_) | (refine MkG.row ?_)); conv => whnf)
    | (refine LitG.row ?_; conv => whnf)
    | exact trivial
    | (refine Br.mk (fun hb => ?_) (fun hb => ?_) <;> (first | (exfalso; revert hb; decide) | ((try simp only [BL] at hb) <;> (try simp only [DL] at hb) <;> conv => whnf)))
    | (refine And.intro ?_ ?_; (focus (first | exact id | exact rfl | exact trivial | (intro hg; first | exact hg | exact rfl | (simp; done) | (simp at hg ⊢; assumption)) | omega | decide | exact is2_c _ _ _ | exact is1_c _ _ | exact isS_c _ _ | exact isB_c _ _ | exact Nat.le_refl _ | assumption | exact mulLe (by decide) (by omega) | exact mulLe2 (by decide) (by omega) (by omega) | (intros; simp only [BL] at *; omega) | (intros; (try simp only [BL] at *); (try simp only [DL] at *); omega) | (intros; simp only [BL] at *; rw [wr_id (by omega) (by omega)]; omega) | (intro h1 h2; exact Bool.and_eq_true_iff.2 ⟨h1, h2⟩) | (intros; simp_all; done))); conv => whnf)
    | (refine Or.inr (And.intro rfl ?_); first | (refine congrArg intV ?_) | (refine congrArg boolV ?_) | (refine tupII ?_ ?_) | (refine tupIII ?_ ?_ ?_) | (refine tupU ?_ ?_ ?_ ?_ ?_) | exact rfl))
  refine sem_loop tab_ok gamN1_ok mixed (by kernel_rfl) (O := lex) (fun i : Nat => ⟨[(2, intV s.up), (3, intV s.dn), (10, .own 0), (11, .lp 1 0), (20, intV s.m), (21, intV i)], [rrR s.m (fun j => if j < i then rA s (j + 1) else s.lo j) (fun j => if j < i then rB s (j + 1) else s.hi j), .box [intV (rA s i), intV (rB s i)]]⟩) (fun i => i ≤ s.m ∧ rFine s i) (fun i => s.m - i) ⟨0, [?_, ?_], ⟨Nat.zero_le _, fun k hk => absurd hk (Nat.not_lt_zero _)⟩, ?_⟩ fun i hi => ?_
  rotate_left 2
  · refine Sub.of ?_ ?_ ?_
    repeat' (first | (refine And.intro ?_ ?_) | exact trivial | exact fun _ _ _ => hsc _ _ | (exact congrArg intV (by first | with_reducible rfl | with_reducible assumption)) | exact (rfl : AV.idsLt _ _ = true) | exact (rfl : _ = AV.ren _ (.own _)) | exact (rfl : _ = AV.ren _ (.fn _ _)) | exact (rfl : _ = AV.ren _ (.gh _)) | (exact congrArg intV (by assumption)) | (refine congrArg intV ((wr_id (by omega) (by omega)).trans (by omega))) | exact rfl | (simp only [NLc]; first | exact rfl | done) | exact all0 | exact fun h => Bool.noConfusion h | exact fun _ _ _ _ => rfl | omega)
  · have hb := rAB hok hi.1 hi.2
    have hk := hok.1
    have hok0 := hok
    obtain ⟨-, g1, g2, g3, g4⟩ := hok
    have w1 : IntKind.i64.wrap (rA s i - s.dn) = rA s i - s.dn := wr_id (by omega) (by omega)
    have w2 : IntKind.i64.wrap (rB s i + s.up) = rB s i + s.up := wr_id (by omega) (by omega)
    have v1 : (if i < i then rA s (i + 1) else s.lo i) = s.lo i := if_neg (Nat.lt_irrefl i)
    have v2 : (if i < i then rB s (i + 1) else s.hi i) = s.hi i := if_neg (Nat.lt_irrefl i)
    have a1 : rA s (i + 1) = max (s.lo i) (rA s i - s.dn) := rfl
    have a2 : rB s (i + 1) = min (s.hi i) (rB s i + s.up) := rfl
    conv => whnf
    repeat' (first
      | (refine NilG.mk fun bn hbn hbx => ?_; conv => whnf)
      | (refine Both.mk ?_ ?_ <;> conv => whnf)
      | ((first | (refine MkG.box 1 rfl rfl rfl (by decide) ?_) | (refine MkG.box 2 rfl rfl rfl (by decide) ?_) | (refine MkG.box 3 rfl rfl rfl (by decide) ?_) | (refine MkG.row ?_)); conv => whnf)
      | (refine LitG.row ?_; conv => whnf)
      | exact trivial
      | (refine Br.mk (fun hb => ?_) (fun hb => ?_) <;> (first | (exfalso; revert hb; decide) | ((try simp only [BL] at hb) <;> (try simp only [DL] at hb) <;> conv => whnf)))
      | (refine And.intro ?_ ?_; (focus (first | exact id | exact rfl | exact trivial | (intro hg; first | exact hg | exact rfl | (simp; done) | (simp at hg ⊢; assumption)) | omega | decide | exact is2_c _ _ _ | exact is1_c _ _ | exact isS_c _ _ | exact isB_c _ _ | exact Nat.le_refl _ | assumption | exact mulLe (by decide) (by omega) | exact mulLe2 (by decide) (by omega) (by omega) | (intros; simp only [BL] at *; omega) | (intros; (try simp only [BL] at *); (try simp only [DL] at *); omega) | (intros; simp only [BL] at *; rw [wr_id (by omega) (by omega)]; omega) | (intro h1 h2; exact Bool.and_eq_true_iff.2 ⟨h1, h2⟩) | exact ⟨rfl, by omega, by decide⟩ | (intros; simp_all; done))); conv => whnf)
      | (refine Or.inr (And.intro rfl ?_); first | (refine congrArg intV ?_) | (refine congrArg boolV ?_) | (refine tupII ?_ ?_) | (refine tupIII ?_ ?_ ?_) | (refine tupU ?_ ?_ ?_ ?_ ?_) | exact rfl))
    · dsimp only
      rw [if_pos rfl]
      conv => whnf
      repeat' (first
        | (refine NilG.mk fun bn hbn hbx => ?_; conv => whnf)
        | (refine Both.mk ?_ ?_ <;> conv => whnf)
        | ((first | (refine MkG.box 1 rfl rfl rfl (by decide) ?_) | (refine MkG.box 2 rfl rfl rfl (by decide) ?_) | (refine MkG.box 3 rfl rfl rfl (by decide) ?_) | (refine MkG.row ?_)); conv => whnf)
        | (refine LitG.row ?_; conv => whnf)
        | exact trivial
        | (refine Br.mk (fun hb => ?_) (fun hb => ?_) <;> (first | (exfalso; revert hb; decide) | ((try simp only [BL] at hb) <;> (try simp only [DL] at hb) <;> conv => whnf)))
        | (refine And.intro ?_ ?_; (focus (first | exact id | exact rfl | exact trivial | (intro hg; first | exact hg | exact rfl | (simp; done) | (simp at hg ⊢; assumption)) | omega | decide | exact is2_c _ _ _ | exact is1_c _ _ | exact isS_c _ _ | exact isB_c _ _ | exact Nat.le_refl _ | assumption | exact mulLe (by decide) (by omega) | exact mulLe2 (by decide) (by omega) (by omega) | (intros; simp only [BL] at *; omega) | (intros; (try simp only [BL] at *); (try simp only [DL] at *); omega) | (intros; simp only [BL] at *; rw [wr_id (by omega) (by omega)]; omega) | (intro h1 h2; exact Bool.and_eq_true_iff.2 ⟨h1, h2⟩) | (intros; simp_all; done))); conv => whnf)
        | (refine Or.inr (And.intro rfl ?_); first | (refine congrArg intV ?_) | (refine congrArg boolV ?_) | (refine tupII ?_ ?_) | (refine tupIII ?_ ?_ ?_) | (refine tupU ?_ ?_ ?_ ?_ ?_) | exact rfl))
      dsimp only
      rw [if_pos rfl]
      conv => whnf
      repeat' (first
        | (refine NilG.mk fun bn hbn hbx => ?_; conv => whnf)
        | (refine Both.mk ?_ ?_ <;> conv => whnf)
        | ((first | (refine MkG.box 1 rfl rfl rfl (by decide) ?_) | (refine MkG.box 2 rfl rfl rfl (by decide) ?_) | (refine MkG.box 3 rfl rfl rfl (by decide) ?_) | (refine MkG.row ?_)); conv => whnf)
        | (refine LitG.row ?_; conv => whnf)
        | exact trivial
        | (refine Br.mk (fun hb => ?_) (fun hb => ?_) <;> (first | (exfalso; revert hb; decide) | ((try simp only [BL] at hb) <;> (try simp only [DL] at hb) <;> conv => whnf)))
        | (refine And.intro ?_ ?_; (focus (first | exact id | exact rfl | exact trivial | (intro hg; first | exact hg | exact rfl | (simp; done) | (simp at hg ⊢; assumption)) | omega | decide | exact is2_c _ _ _ | exact is1_c _ _ | exact isS_c _ _ | exact isB_c _ _ | exact Nat.le_refl _ | assumption | exact mulLe (by decide) (by omega) | exact mulLe2 (by decide) (by omega) (by omega) | (intros; simp only [BL] at *; omega) | (intros; (try simp only [BL] at *); (try simp only [DL] at *); omega) | (intros; simp only [BL] at *; rw [wr_id (by omega) (by omega)]; omega) | (intro h1 h2; exact Bool.and_eq_true_iff.2 ⟨h1, h2⟩) | (intros; simp_all; done))); conv => whnf)
        | (refine Or.inr (And.intro rfl ?_); first | (refine congrArg intV ?_) | (refine congrArg boolV ?_) | (refine tupII ?_ ?_) | (refine tupIII ?_ ?_ ?_) | (refine tupU ?_ ?_ ?_ ?_ ?_) | exact rfl))
      · have hb' : max (if i < i then rA s (i + 1) else s.lo i) (IntKind.i64.wrap (rA s i - s.dn)) > min (if i < i then rB s (i + 1) else s.hi i) (IntKind.i64.wrap (rB s i + s.up)) := hb
        rw [v1, v2, w1, w2, ← a1, ← a2] at hb'
        refine .inr ⟨_, ⟨rfl, .inr ⟨fun h => ?_, rfl⟩⟩, Le1.refl _⟩
        have := h i (by omega)
        omega
      · have hb' : ¬ max (if i < i then rA s (i + 1) else s.lo i) (IntKind.i64.wrap (rA s i - s.dn)) > min (if i < i then rB s (i + 1) else s.hi i) (IntKind.i64.wrap (rB s i + s.up)) := hb
        rw [v1, v2, w1, w2, ← a1, ← a2] at hb'
        have e1 : max (if i < i then rA s (i + 1) else s.lo i) (IntKind.i64.wrap (rA s i - s.dn)) = rA s (i + 1) := by rw [v1, w1, a1]
        have e2 : min (if i < i then rB s (i + 1) else s.hi i) (IntKind.i64.wrap (rB s i + s.up)) = rB s (i + 1) := by rw [v2, w2, a2]
        refine ⟨i + 1, [?_, ?_], ⟨by omega, fun j hj => by
                rcases Nat.lt_succ_iff_lt_or_eq.1 hj with h | rfl
                · exact hi.2 j h
                · omega⟩, by omega, ?_⟩
        rotate_left 2
        refine Sub.of ?_ ?_ ?_
        repeat' (first | (refine And.intro ?_ ?_) | exact trivial | exact fun _ _ _ => hsc _ _ | (exact congrArg intV (by first | with_reducible rfl | with_reducible assumption)) | exact (rfl : AV.idsLt _ _ = true) | exact (rfl : _ = AV.ren _ (.own _)) | exact (rfl : _ = AV.ren _ (.fn _ _)) | exact (rfl : _ = AV.ren _ (.gh _)) | (exact congrArg intV (by assumption)) | (refine congrArg intV ((wr_id (by omega) (by omega)).trans (by omega))) | exact rfl | (simp only [NLc]; first | exact rfl | done) | exact all0 | exact fun h => Bool.noConfusion h | exact fun _ _ _ _ => rfl | omega)
        · intro k hk' j hj
          dsimp only
          have f : ∀ (x y : Nat → Int) (k : Nat), k ≠ i → (if k < i + 1 then x k else y k) = if k < i then x k else y k := fun x y k hki => by
            by_cases hlt : k < i
            · rw [if_pos hlt, if_pos (by omega)]
            · rw [if_neg hlt, if_neg (by omega)]
          by_cases hki : k = i
          · subst hki
            refine (if_pos rfl).trans ((if_pos ⟨Nat.zero_le _, by simpa using hj⟩).trans ?_)
            match j, hj with
            | 0, _ => exact congrArg iL (e1.trans (if_pos (Nat.lt_succ_self k)).symm)
            | 1, _ => exact congrArg iL (e2.trans (if_pos (Nat.lt_succ_self k)).symm)
          · refine (if_neg hki).trans ?_
            match j, hj with
            | 0, _ => exact congrArg iL (f (fun j => rA s (j + 1)) s.lo k hki).symm
            | 1, _ => exact congrArg iL (f (fun j => rB s (j + 1)) s.hi k hki).symm
        · exact (congr (congrArg (fun a b => [intV a, intV b]) e1) e2 : _)
    obtain rfl : i = s.m := by omega
    have hf := hi.2
    have w0 : IntKind.i64.wrap ((s.m : Int) - 2) = (s.m : Int) - 2 := wr_id (by omega) (by omega)
    refine sem_loop tab_ok gamN1_ok mixed (by kernel_rfl) (O := lex) (fun x : Nat × Int => ⟨[(2, intV s.up), (3, intV s.dn), (10, .own 0), (13, intV x.2)], [rrR s.m (fun j => if s.m ≤ j + 1 + x.1 then cL s (s.m - 1 - j) else rA s (j + 1)) (fun j => if s.m ≤ j + 1 + x.1 then cH s (s.m - 1 - j) else rB s (j + 1))]⟩) (fun x => x.2 = (s.m : Int) - 2 - x.1 ∧ (x.1 + 1 ≤ s.m ∨ x.1 = 0)) (fun x => s.m - x.1) ⟨(0, (s.m : Int) - 2), [?_], ⟨by omega, .inr rfl⟩, ?_⟩ fun x hx => ?_
    rotate_left 1
    · refine Sub.of ?_ ?_ ?_
      repeat' (first | (refine And.intro ?_ ?_) | exact trivial | exact fun _ _ _ => hsc _ _ | (exact congrArg intV (by first | with_reducible rfl | with_reducible assumption)) | exact (rfl : AV.idsLt _ _ = true) | exact (rfl : _ = AV.ren _ (.own _)) | exact (rfl : _ = AV.ren _ (.fn _ _)) | exact (rfl : _ = AV.ren _ (.gh _)) | (exact congrArg intV (by assumption)) | (refine congrArg intV ((wr_id (by omega) (by omega)).trans (by omega))) | exact rfl | (simp only [NLc]; first | exact rfl | done) | exact all0 | exact fun h => Bool.noConfusion h | exact fun _ _ _ _ => rfl | omega)
      · intro a ha b hb
        have q1 : ∀ (x : Nat → Int) (y : Nat → Int) (z : Nat → Int), x (s.m) = z 0 → (if a < s.m then x (a + 1) else y a) = if s.m ≤ a + 1 + 0 then z (s.m - 1 - a) else x (a + 1) := fun x y z e => by
          rw [if_pos ha]
          by_cases c : s.m ≤ a + 1 + 0
          · rw [if_pos c, show a + 1 = s.m by omega, show s.m - 1 - a = 0 by omega]
            exact e
          · rw [if_neg c]
        match b, hb with
        | 0, _ => exact congrArg iL (q1 (rA s) s.lo (cL s) rfl)
        | 1, _ => exact congrArg iL (q1 (rB s) s.hi (cH s) rfl)
    obtain ⟨k, z⟩ := x
    obtain ⟨hz, hk1⟩ := hx
    dsimp only at hz hk1
    rcases Int.lt_or_le z 0 with hz0 | hz0
    · conv => whnf
      repeat' (first
        | (refine NilG.mk fun bn hbn hbx => ?_; conv => whnf)
        | (refine Both.mk ?_ ?_ <;> conv => whnf)
        | ((first | (refine MkG.box 1 rfl rfl rfl (by decide) ?_) | (refine MkG.box 2 rfl rfl rfl (by decide) ?_) | (refine MkG.box 3 rfl rfl rfl (by decide) ?_) | (refine MkG.row ?_)); conv => whnf)
        | (refine LitG.row ?_; conv => whnf)
        | exact trivial
        | (refine Br.mk (fun hb => ?_) (fun hb => ?_) <;> (first | (exfalso; revert hb; decide) | ((try simp only [BL] at hb) <;> (try simp only [DL] at hb) <;> (first | (exfalso; omega) | (conv => whnf)))))
        | (refine And.intro ?_ ?_; (focus (first | exact id | exact rfl | exact trivial | (intro hg; first | exact hg | exact rfl | (simp; done) | (simp at hg ⊢; assumption)) | omega | decide | exact is2_c _ _ _ | exact is1_c _ _ | exact isS_c _ _ | exact isB_c _ _ | exact Nat.le_refl _ | assumption | exact mulLe (by decide) (by omega) | exact mulLe2 (by decide) (by omega) (by omega) | (intros; simp only [BL] at *; omega) | (intros; (try simp only [BL] at *); (try simp only [DL] at *); omega) | (intros; simp only [BL] at *; rw [wr_id (by omega) (by omega)]; omega) | (intro h1 h2; exact Bool.and_eq_true_iff.2 ⟨h1, h2⟩) | (intros; simp_all; done))); conv => whnf)
        | (refine Or.inr (And.intro rfl ?_); first | (refine congrArg intV ?_) | (refine congrArg boolV ?_) | (refine tupII ?_ ?_) | (refine tupIII ?_ ?_ ?_) | (refine tupU ?_ ?_ ?_ ?_ ?_) | exact rfl))
      refine .inr ⟨_, ⟨rfl, .inl ⟨hf, rfl⟩⟩, Le1.tup (Le.cons (Le1.sl fun a ha b hb => ?_) (Le.cons (Le1.refl _) Le.nil))⟩
      have q1 : ∀ (x z : Nat → Int), (if s.m ≤ a + 1 + k then z (s.m - 1 - a) else x (a + 1)) = z (s.m - 1 - a) := fun x z => if_pos (by omega)
      match b, hb with
      | 0, _ => exact congrArg iL (q1 (rA s) (cL s))
      | 1, _ => exact congrArg iL (q1 (rB s) (cH s))
    · obtain ⟨i, rfl⟩ : ∃ i : Nat, z = (i : Int) := ⟨z.toNat, by omega⟩
      have w3 : IntKind.i64.wrap ((i : Int) + 1) = ((i + 1 : Nat) : Int) := (wr_id (by omega) (by omega)).trans (by omega)
      have w4 : (IntKind.i64.wrap ((i : Int) + 1)).toNat = i + 1 := by rw [w3]; rfl
      have w5 : (IntKind.i64.wrap ((i : Int) + 1)).toNat < s.m := by omega
      conv => whnf
      repeat' (first
        | (refine NilG.mk fun bn hbn hbx => ?_; conv => whnf)
        | (refine Both.mk ?_ ?_ <;> conv => whnf)
        | ((first | (refine MkG.box 1 rfl rfl rfl (by decide) ?_) | (refine MkG.box 2 rfl rfl rfl (by decide) ?_) | (refine MkG.box 3 rfl rfl rfl (by decide) ?_) | (refine MkG.row ?_)); conv => whnf)
        | (refine LitG.row ?_; conv => whnf)
        | exact trivial
        | (refine Br.mk (fun hb => ?_) (fun hb => ?_) <;> (first | (exfalso; revert hb; decide) | ((try simp only [BL] at hb) <;> (try simp only [DL] at hb) <;> (first | (exfalso; omega) | (conv => whnf)))))
        | (refine And.intro ?_ ?_; (focus (first | exact id | exact rfl | exact trivial | (intro hg; first | exact hg | exact rfl | (simp; done) | (simp at hg ⊢; assumption)) | omega | decide | exact is2_c _ _ _ | exact is1_c _ _ | exact isS_c _ _ | exact isB_c _ _ | exact Nat.le_refl _ | assumption | exact mulLe (by decide) (by omega) | exact mulLe2 (by decide) (by omega) (by omega) | (intros; simp only [BL] at *; omega) | (intros; (try simp only [BL] at *); (try simp only [DL] at *); omega) | (intros; simp only [BL] at *; rw [wr_id (by omega) (by omega)]; omega) | (intro h1 h2; exact Bool.and_eq_true_iff.2 ⟨h1, h2⟩) | first | exact ⟨rfl, w5, by decide⟩ | exact ⟨by omega, by rw [w3]; omega⟩ | exact ⟨rfl, by omega, by decide⟩ | (intros; simp_all; done))); conv => whnf)
        | (refine Or.inr (And.intro rfl ?_); first | (refine congrArg intV ?_) | (refine congrArg boolV ?_) | (refine tupII ?_ ?_) | (refine tupIII ?_ ?_ ?_) | (refine tupU ?_ ?_ ?_ ?_ ?_) | exact rfl))
      have hc := cLH_b hok0 hf (d := k) (by omega)
      have hmk : s.m - (k + 1) = i + 1 := by omega
      have hik : s.m - 1 - (i + 1) = k := by omega
      have u1 : (if s.m ≤ i + 1 + k then cL s (s.m - 1 - i) else rA s (i + 1)) = rA s (i + 1) := if_neg (by omega)
      have u2 : (if s.m ≤ i + 1 + k then cH s (s.m - 1 - i) else rB s (i + 1)) = rB s (i + 1) := if_neg (by omega)
      have u3 : (if s.m ≤ i + 1 + 1 + k then cL s (s.m - 1 - (i + 1)) else rA s (i + 1 + 1)) = cL s k := (if_pos (by omega)).trans (by rw [hik])
      have u4 : (if s.m ≤ i + 1 + 1 + k then cH s (s.m - 1 - (i + 1)) else rB s (i + 1 + 1)) = cH s k := (if_pos (by omega)).trans (by rw [hik])
      have c1 : cL s (k + 1) = max (rA s (i + 1)) (cL s k - s.up) := by rw [cL, hmk]
      have c2' : cH s (k + 1) = min (rB s (i + 1)) (cH s k + s.dn) := by rw [cH, hmk]
      have e1 : max (if s.m ≤ i + 1 + k then cL s (s.m - 1 - i) else rA s (i + 1)) (IntKind.i64.wrap ((if s.m ≤ (IntKind.i64.wrap ((i : Int) + 1)).toNat + 1 + k then cL s (s.m - 1 - (IntKind.i64.wrap ((i : Int) + 1)).toNat) else rA s ((IntKind.i64.wrap ((i : Int) + 1)).toNat + 1)) - s.up)) = cL s (k + 1) := by
        rw [w4, u1, u3, wr_id (by omega) (by omega), c1]
      have e2 : min (if s.m ≤ i + 1 + k then cH s (s.m - 1 - i) else rB s (i + 1)) (IntKind.i64.wrap ((if s.m ≤ (IntKind.i64.wrap ((i : Int) + 1)).toNat + 1 + k then cH s (s.m - 1 - (IntKind.i64.wrap ((i : Int) + 1)).toNat) else rB s ((IntKind.i64.wrap ((i : Int) + 1)).toNat + 1)) + s.dn)) = cH s (k + 1) := by
        rw [w4, u2, u4, wr_id (by omega) (by omega), c2']
      refine ⟨(k + 1, (i : Int) - 1), [?_], ⟨by dsimp only; omega, .inl (by dsimp only; omega)⟩, by omega, ?_⟩
      rotate_left 1
      refine Sub.of ?_ ?_ ?_
      repeat' (first | (refine And.intro ?_ ?_) | exact trivial | exact fun _ _ _ => hsc _ _ | (exact congrArg intV (by first | with_reducible rfl | with_reducible assumption)) | exact (rfl : AV.idsLt _ _ = true) | exact (rfl : _ = AV.ren _ (.own _)) | exact (rfl : _ = AV.ren _ (.fn _ _)) | exact (rfl : _ = AV.ren _ (.gh _)) | (exact congrArg intV (by assumption)) | (refine congrArg intV ((wr_id (by omega) (by omega)).trans (by omega))) | exact rfl | (simp only [NLc]; first | exact rfl | done) | exact all0 | exact fun h => Bool.noConfusion h | exact fun _ _ _ _ => rfl | omega)
      intro a ha b hb
      by_cases hai : a = i
      · have f1 : (if s.m ≤ a + 1 + (k + 1) then cL s (s.m - 1 - a) else rA s (a + 1)) = cL s (k + 1) := (if_pos (by omega)).trans (by rw [show s.m - 1 - a = k + 1 by omega])
        have f2 : (if s.m ≤ a + 1 + (k + 1) then cH s (s.m - 1 - a) else rB s (a + 1)) = cH s (k + 1) := (if_pos (by omega)).trans (by rw [show s.m - 1 - a = k + 1 by omega])
        refine (if_pos hai).trans ?_
        match b, hb with
        | 0, _ => exact (if_neg (fun h => by have := h.1; omega)).trans ((if_pos hai).trans ((if_pos ⟨Nat.zero_le _, by simp⟩).trans (congrArg iL (e1.trans f1.symm))))
        | 1, _ => exact (if_pos ⟨by simp, by simp⟩).trans (congrArg iL (e2.trans f2.symm))
      · have f1 : ∀ (x y : Nat → Int), (if s.m ≤ a + 1 + k then x (s.m - 1 - a) else y (a + 1)) = if s.m ≤ a + 1 + (k + 1) then x (s.m - 1 - a) else y (a + 1) := fun x y => by
          by_cases c : s.m ≤ a + 1 + k
          · rw [if_pos c, if_pos (by omega)]
          · rw [if_neg c, if_neg (by omega)]
        refine (if_neg hai).trans ((if_neg hai).trans ?_)
        match b, hb with
        | 0, _ => exact congrArg iL (f1 (cL s) (rA s))
        | 1, _ => exact congrArg iL (f1 (cH s) (rB s))
theorem rrReach (s : Rmr) (hok : rrOk s) (hm : s.m ≤ 24) : Fn Try.prog 35 [.c (.sl 2 s.m (c2 s.lo s.hi)), intV s.now, intV s.up, intV s.dn] (reK s) :=
  (rrReach0 s hok hm).res fun obs r h => h
def raK (s : Rmr) (obs : List OB) (r : AV) : Prop := obs = [] ∧ ((rrE s ≠ 0 ∧ r = .tup [.c (.v (.slice none 0 0)), intV (rrE s)]) ∨ (rrE s = 0 ∧ ¬ rFine s s.m ∧ r = .tup [.c (.v (.slice none 0 0)), intV 8]) ∨
  (rrE s = 0 ∧ rFine s s.m ∧ r = .tup [.c (.sl 2 s.m (c2 (fun j => cL s (s.m - 1 - j)) fun j => cH s (s.m - 1 - j))), intV 0]))
theorem rrE_zero {s : Rmr} (h : rrE s = 0) : rrOk s ∧ s.m ≤ 24 := by
  unfold rrE at h
  split at h
  · cases h
  · split at h
    · exact ⟨by assumption, by omega⟩
    · cases h
theorem rrRange (s : Rmr) (hm : s.m ≤ maxLen) : Fn Try.prog 8 [.c (.sl 2 s.m (c2 s.lo s.hi)), intV s.now, intV s.up, intV s.dn] (raK s) := by
  refine fn_of_wpx (O := lex) tab_ok gamN1_ok mixed Try.func8 (by kernel_rfl) rfl rfl rfl (by simp [Try.ntmps8]) (by kernel_rfl) ?_
  conv => whnf
  repeat' (first
    | (refine NilG.mk fun bn hbn hbx => ?_; conv => whnf)
    | (refine Both.mk ?_ ?_ <;> conv => whnf)
    | ((first | (refine MkG.box 1 rfl rfl rfl (by decide) ?_) | (refine MkG.box 2 rfl rfl rfl (by decide) ?_) | (refine MkG.box 3 rfl rfl rfl (by decide) ?_) | (refine MkG.row ?_)); conv => whnf)
    | (refine LitG.row ?_; conv => whnf)
    | exact trivial
    | (refine Br.mk (fun hb => ?_) (fun hb => ?_) <;> (first | (exfalso; revert hb; decide) | ((try simp only [BL] at hb) <;> (try simp only [DL] at hb) <;> conv => whnf)))
    | (refine And.intro ?_ ?_; (focus (first | exact id | exact rfl | exact trivial | (intro hg; first | exact hg | exact rfl | (simp; done) | (simp at hg ⊢; assumption)) | omega | decide | exact is2_c _ _ _ | exact is1_c _ _ | exact isS_c _ _ | exact isB_c _ _ | exact Nat.le_refl _ | assumption | exact mulLe (by decide) (by omega) | exact mulLe2 (by decide) (by omega) (by omega) | (intros; simp only [BL] at *; omega) | (intros; (try simp only [BL] at *); (try simp only [DL] at *); omega) | (intros; simp only [BL] at *; rw [wr_id (by omega) (by omega)]; omega) | (intro h1 h2; exact Bool.and_eq_true_iff.2 ⟨h1, h2⟩) | (intros; simp_all; done))); conv => whnf)
    | (refine Or.inr (And.intro rfl ?_); first | (refine congrArg intV ?_) | (refine congrArg boolV ?_) | (refine tupII ?_ ?_) | (refine tupIII ?_ ?_ ?_) | (refine tupU ?_ ?_ ?_ ?_ ?_) | exact rfl))
  refine CallG.mk (Fn.mono (rrChk s hm) ?_)
  rintro obs r ⟨rfl, rfl⟩
  conv => whnf
  repeat' (first
    | (refine NilG.mk fun bn hbn hbx => ?_; conv => whnf)
    | (refine Both.mk ?_ ?_ <;> conv => whnf)
    | ((first | (refine MkG.box 1 rfl rfl rfl (by decide) ?_) | (refine MkG.box 2 rfl rfl rfl (by decide) ?_) | (refine MkG.box 3 rfl rfl rfl (by decide) ?_) | (refine MkG.row ?_)); conv => whnf)
    | (refine LitG.row ?_; conv => whnf)
    | exact trivial
    | (refine Br.mk (fun hb => ?_) (fun hb => ?_) <;> (first | (exfalso; revert hb; decide) | ((try simp only [BL] at hb) <;> (try simp only [DL] at hb) <;> conv => whnf)))
    | (refine And.intro ?_ ?_; (focus (first | exact id | exact rfl | exact trivial | (intro hg; first | exact hg | exact rfl | (simp; done) | (simp at hg ⊢; assumption)) | omega | decide | exact is2_c _ _ _ | exact is1_c _ _ | exact isS_c _ _ | exact isB_c _ _ | exact Nat.le_refl _ | assumption | exact mulLe (by decide) (by omega) | exact mulLe2 (by decide) (by omega) (by omega) | (intros; simp only [BL] at *; omega) | (intros; (try simp only [BL] at *); (try simp only [DL] at *); omega) | (intros; simp only [BL] at *; rw [wr_id (by omega) (by omega)]; omega) | (intro h1 h2; exact Bool.and_eq_true_iff.2 ⟨h1, h2⟩) | (intros; simp_all; done))); conv => whnf)
    | (refine Or.inr (And.intro rfl ?_); first | (refine congrArg intV ?_) | (refine congrArg boolV ?_) | (refine tupII ?_ ?_) | (refine tupIII ?_ ?_ ?_) | (refine tupU ?_ ?_ ?_ ?_ ?_) | exact rfl))
  · exact .inr ⟨rfl, .inl ⟨by first | exact hb | omega, rfl⟩⟩
  have h0 : rrE s = 0 := by omega
  refine CallG.mk (Fn.mono (rrReach s (rrE_zero h0).1 (rrE_zero h0).2) ?_)
  rintro obs r ⟨rfl, ⟨hf, rfl⟩ | ⟨hf, rfl⟩⟩
  · conv => whnf
    repeat' (first
      | (refine NilG.mk fun bn hbn hbx => ?_; conv => whnf)
      | (refine Both.mk ?_ ?_ <;> conv => whnf)
      | ((first | (refine MkG.box 1 rfl rfl rfl (by decide) ?_) | (refine MkG.box 2 rfl rfl rfl (by decide) ?_) | (refine MkG.box 3 rfl rfl rfl (by decide) ?_) | (refine MkG.row ?_)); conv => whnf)
      | (refine LitG.row ?_; conv => whnf)
      | exact trivial
      | (refine Br.mk (fun hb => ?_) (fun hb => ?_) <;> (first | (exfalso; revert hb; decide) | ((try simp only [BL] at hb) <;> (try simp only [DL] at hb) <;> conv => whnf)))
      | (refine And.intro ?_ ?_; (focus (first | exact id | exact rfl | exact trivial | (intro hg; first | exact hg | exact rfl | (simp; done) | (simp at hg ⊢; assumption)) | omega | decide | exact is2_c _ _ _ | exact is1_c _ _ | exact isS_c _ _ | exact isB_c _ _ | exact Nat.le_refl _ | assumption | exact mulLe (by decide) (by omega) | exact mulLe2 (by decide) (by omega) (by omega) | (intros; simp only [BL] at *; omega) | (intros; (try simp only [BL] at *); (try simp only [DL] at *); omega) | (intros; simp only [BL] at *; rw [wr_id (by omega) (by omega)]; omega) | (intro h1 h2; exact Bool.and_eq_true_iff.2 ⟨h1, h2⟩) | (intros; simp_all; done))); conv => whnf)
      | (refine Or.inr (And.intro rfl ?_); first | (refine congrArg intV ?_) | (refine congrArg boolV ?_) | (refine tupII ?_ ?_) | (refine tupIII ?_ ?_ ?_) | (refine tupU ?_ ?_ ?_ ?_ ?_) | exact rfl))
    exact .inr ⟨rfl, .inr (.inr ⟨h0, hf, rfl⟩)⟩
  · conv => whnf
    repeat' (first
      | (refine NilG.mk fun bn hbn hbx => ?_; conv => whnf)
      | (refine Both.mk ?_ ?_ <;> conv => whnf)
      | ((first | (refine MkG.box 1 rfl rfl rfl (by decide) ?_) | (refine MkG.box 2 rfl rfl rfl (by decide) ?_) | (refine MkG.box 3 rfl rfl rfl (by decide) ?_) | (refine MkG.row ?_)); conv => whnf)
      | (refine LitG.row ?_; conv => whnf)
      | exact trivial
      | (refine Br.mk (fun hb => ?_) (fun hb => ?_) <;> (first | (exfalso; revert hb; decide) | ((try simp only [BL] at hb) <;> (try simp only [DL] at hb) <;> conv => whnf)))
      | (refine And.intro ?_ ?_; (focus (first | exact id | exact rfl | exact trivial | (intro hg; first | exact hg | exact rfl | (simp; done) | (simp at hg ⊢; assumption)) | omega | decide | exact is2_c _ _ _ | exact is1_c _ _ | exact isS_c _ _ | exact isB_c _ _ | exact Nat.le_refl _ | assumption | exact mulLe (by decide) (by omega) | exact mulLe2 (by decide) (by omega) (by omega) | (intros; simp only [BL] at *; omega) | (intros; (try simp only [BL] at *); (try simp only [DL] at *); omega) | (intros; simp only [BL] at *; rw [wr_id (by omega) (by omega)]; omega) | (intro h1 h2; exact Bool.and_eq_true_iff.2 ⟨h1, h2⟩) | (intros; simp_all; done))); conv => whnf)
      | (refine Or.inr (And.intro rfl ?_); first | (refine congrArg intV ?_) | (refine congrArg boolV ?_) | (refine tupII ?_ ?_) | (refine tupIII ?_ ?_ ?_) | (refine tupU ?_ ?_ ?_ ?_ ?_) | exact rfl))
    exact .inr ⟨rfl, .inr (.inl ⟨h0, hf, rfl⟩)⟩
end Go.Proofs.Ytemfikdogdadnaa
