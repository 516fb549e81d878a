/-
  WelfareMoves holds: Waste and Move return what the definitions say, whatever the input.
-/
import Derived.Test.YtdakikgebfphmaaWlf
namespace Go.Proofs.Ytdakikgebfphmaa
open Go.RowKit Go.ChangeShapes Go.WideShapes

def gamW2 : Gam := fun f => match f with
  | 25 => some (sOl fun n s m p q => intV (offsE n s m p q))
  | 22 => some (s3 inB)
  | 26 => some (sO (fun _ n p q => okOff n p q) fun _ n p _ => intV (S p n))
  | 27 => some (sOi (fun _ n p q x => okOff n p q ∧ 0 ≤ x ∧ x ≤ 2000000) fun _ n p q x => intV (S (ct p q x) n))
  | 52 => some (sOi (fun _ n p q _ => okOff n p q) fun _ n p q x => intV (U p q n x))
  | _ => none
theorem gamW2_ok : GOk Try.prog gamW2 := fun f g h => by
  unfold gamW2 at h
  split at h
  · injection h with h; subst h; exact sOl_ok fun s m p q n h1 h2 => offsError s m p q n h1 h2
  · injection h with h; subst h; exact s3_ok in3
  · injection h with h; subst h; exact sO_ok offAll
  · injection h with h; subst h; exact sOi_ok offCost3
  · injection h with h; subst h; exact sOi_ok fun s n p q x hp => offUnit s n p q x hp
  · cases h

def xX : Nat → Int := fun k => if k = 0 then 12 else 2
theorem xDx : dxE 2 2 (xS ⟨#[65]⟩ ⟨#[66]⟩) xM xP xQ xX = 0 := by
  unfold dxE
  rw [if_neg (fun h => h xOffs), if_neg (by decide)]
  decide
theorem xMvF : mvF 2 xM xP xQ xX 2 = (0, 1, 3) := by decide
theorem xMv : mvE 2 2 (xS ⟨#[65]⟩ ⟨#[66]⟩) xM xP xQ xX = 0 := by
  unfold mvE
  rw [if_neg (fun h => h xDx), xMvF]
  decide

theorem fst_ge {e : Nat → Int} {i : Nat} (h : fst e i ≠ 0) : ∀ {n : Nat}, i ≤ n → fst e n = fst e i
  | 0, hi => by rw [show i = 0 by omega]
  | n + 1, hi => by
    rcases Nat.lt_or_eq_of_le hi with hlt | rfl
    · have ih := fst_ge (n := n) h (by omega)
      simp only [fst]
      rw [if_pos (by rw [ih]; exact h), ih]
    · rfl
/-- a sum up to the first error -/
def sE (m : Nat → Nat) (p : Nat → Nat → Int) (x : Nat → Int) (f : Nat → Int) (i : Nat) : Int := if fst (pwE m p x) i = 0 then S f i else S f (i - 1)
theorem xMove : mvV 2 2 (xS ⟨#[65]⟩ ⟨#[66]⟩) xM xP xQ xX = .tup [intV 0, intV 1, intV 3, intV 0] := by
  simp only [mvV, xMv, xMvF]
  rfl
set_option maxHeartbeats 2000000 in
theorem wlLaw (s : Nat → ByteArray) (m : Nat → Nat) (p q : Nat → Nat → Int) (n nx : Nat) (x : Nat → Int) (hn : n ≤ maxLen) (hk : ∀ k, k < n → (s k).size ≤ maxLen ∧ m k ≤ maxLen) (hnx : nx ≤ maxLen) :
    Fn1 Try.prog 13 [.c (.sl 2 n (cO s m p q)), .c (.sl 1 nx (c1 x))] (boolV true) := by
  refine fn_of_wpx (O := lex) tab_ok gamW2_ok mixed Try.func13 (by kernel_rfl) rfl rfl rfl (by simp [Try.ntmps13]) (by kernel_rfl) ?_
  have hn' : n ≤ 9223372036854775807 := hn
  have hnx' : nx ≤ 9223372036854775807 := hnx
  conv => whnf
  repeat' (first
    | (refine NilG.mk fun bn hbn => ?_; conv => whnf)
    | (refine Both.mk ?_ ?_ <;> conv => whnf)
    | exact trivial
    | (refine Br.mk (fun hb => ?_) (fun hb => ?_) <;> (first | (exfalso; revert hb; decide) | ((try simp only [BL] at hb) <;> (try simp only [DL] at hb) <;> conv => whnf)))
    | (refine And.intro ?_ ?_; (focus (first | exact id | exact rfl | exact trivial | (intro hg; first | exact hg | exact rfl | (simp; done) | (simp at hg ⊢; assumption)) | omega | decide | exact is2_c _ _ _ | exact is1_c _ _ | exact isS_c _ _ | exact isB_c _ _ | exact Nat.le_refl _ | assumption | exact mulLe (by decide) (by omega) | exact mulLe2 (by decide) (by omega) (by omega) | (intros; simp only [BL] at *; omega) | (intros; (try simp only [BL] at *); (try simp only [DL] at *); omega) | (intros; simp only [BL] at *; rw [wr_id (by omega) (by omega)]; omega) | (intros; simp_all; done))); conv => whnf)
    | (refine Or.inr (And.intro rfl ?_); first | (refine congrArg intV ?_) | (refine congrArg boolV ?_) | (refine tupII ?_ ?_) | (refine tupIII ?_ ?_ ?_) | (refine tupU ?_ ?_ ?_ ?_ ?_) | exact rfl))
  refine CallG.mk (Fn.mono (two _) ?_)
  rintro obs r ⟨rfl, rfl⟩
  conv => whnf
  repeat' (first
    | (refine NilG.mk fun bn hbn => ?_; conv => whnf)
    | (refine Both.mk ?_ ?_ <;> conv => whnf)
    | exact trivial
    | (refine Br.mk (fun hb => ?_) (fun hb => ?_) <;> (first | (exfalso; revert hb; decide) | ((try simp only [BL] at hb) <;> (try simp only [DL] at hb) <;> conv => whnf)))
    | (refine And.intro ?_ ?_; (focus (first | exact id | exact rfl | exact trivial | (intro hg; first | exact hg | exact rfl | (simp; done) | (simp at hg ⊢; assumption)) | omega | decide | exact is2_c _ _ _ | exact is1_c _ _ | exact isS_c _ _ | exact isB_c _ _ | exact Nat.le_refl _ | assumption | exact mulLe (by decide) (by omega) | exact mulLe2 (by decide) (by omega) (by omega) | (intros; simp only [BL] at *; omega) | (intros; (try simp only [BL] at *); (try simp only [DL] at *); omega) | (intros; simp only [BL] at *; rw [wr_id (by omega) (by omega)]; omega) | (intros; simp_all; done))); conv => whnf)
    | (refine Or.inr (And.intro rfl ?_); first | (refine congrArg intV ?_) | (refine congrArg boolV ?_) | (refine tupII ?_ ?_) | (refine tupIII ?_ ?_ ?_) | (refine tupU ?_ ?_ ?_ ?_ ?_) | exact rfl))
  refine CallG.mk (Fn.mono (two _) ?_)
  rintro obs r ⟨rfl, rfl⟩
  conv => whnf
  repeat' (first
    | (refine NilG.mk fun bn hbn => ?_; conv => whnf)
    | (refine Both.mk ?_ ?_ <;> conv => whnf)
    | exact trivial
    | (refine Br.mk (fun hb => ?_) (fun hb => ?_) <;> (first | (exfalso; revert hb; decide) | ((try simp only [BL] at hb) <;> (try simp only [DL] at hb) <;> conv => whnf)))
    | (refine And.intro ?_ ?_; (focus (first | exact id | exact rfl | exact trivial | (intro hg; first | exact hg | exact rfl | (simp; done) | (simp at hg ⊢; assumption)) | omega | decide | exact is2_c _ _ _ | exact is1_c _ _ | exact isS_c _ _ | exact isB_c _ _ | exact Nat.le_refl _ | assumption | exact mulLe (by decide) (by omega) | exact mulLe2 (by decide) (by omega) (by omega) | (intros; simp only [BL] at *; omega) | (intros; (try simp only [BL] at *); (try simp only [DL] at *); omega) | (intros; simp only [BL] at *; rw [wr_id (by omega) (by omega)]; omega) | (intros; simp_all; done))); conv => whnf)
    | (refine Or.inr (And.intro rfl ?_); first | (refine congrArg intV ?_) | (refine congrArg boolV ?_) | (refine tupII ?_ ?_) | (refine tupIII ?_ ?_ ?_) | (refine tupU ?_ ?_ ?_ ?_ ?_) | exact rfl))
  refine CallG.mk (Fn.mono ((wlMove (xS ⟨#[65]⟩ ⟨#[66]⟩) xM xP xQ 2 2 xX (by decide) (fun k hk => ?_) (by decide)).le (Le.cons (Le1.l (LLe.sl fun k hk j hj => ?_)) (Le.cons (Le1.sl fun k hk j hj => ?_) Le.nil))) ?_)
  · match k, hk with
    | 0, _ => exact ⟨by decide, by decide⟩
    | 1, _ => exact ⟨by decide, by decide⟩
  · match k, j, hk, hj with
    | 0, 0, _, _ => exact LLe.of_eq rfl
    | 0, 1, _, _ => exact LLe.of_eq rfl
    | 1, 0, _, _ => exact LLe.of_eq rfl
    | 1, 1, _, _ => exact LLe.of_eq rfl
  · match k, j, hk, hj with
    | 0, 0, _, _ => rfl
    | 1, 0, _, _ => rfl
  rintro obs r ⟨rfl, rfl⟩
  rw [xMove]
  conv => whnf
  repeat' (first
    | (refine NilG.mk fun bn hbn => ?_; conv => whnf)
    | (refine Both.mk ?_ ?_ <;> conv => whnf)
    | exact trivial
    | (refine Br.mk (fun hb => ?_) (fun hb => ?_) <;> (first | (exfalso; revert hb; decide) | ((try simp only [BL] at hb) <;> (try simp only [DL] at hb) <;> conv => whnf)))
    | (refine And.intro ?_ ?_; (focus (first | exact id | exact rfl | exact trivial | (intro hg; first | exact hg | exact rfl | (simp; done) | (simp at hg ⊢; assumption)) | omega | decide | exact is2_c _ _ _ | exact is1_c _ _ | exact isS_c _ _ | exact isB_c _ _ | exact Nat.le_refl _ | assumption | exact mulLe (by decide) (by omega) | exact mulLe2 (by decide) (by omega) (by omega) | (intros; simp only [BL] at *; omega) | (intros; (try simp only [BL] at *); (try simp only [DL] at *); omega) | (intros; simp only [BL] at *; rw [wr_id (by omega) (by omega)]; omega) | (intros; simp_all; done))); conv => whnf)
    | (refine Or.inr (And.intro rfl ?_); first | (refine congrArg intV ?_) | (refine congrArg boolV ?_) | (refine tupII ?_ ?_) | (refine tupIII ?_ ?_ ?_) | (refine tupU ?_ ?_ ?_ ?_ ?_) | exact rfl))
  refine CallG.mk (Fn.mono (wlWaste s m p q n nx x hn hk hnx) ?_)
  rintro obs r ⟨rfl, c, rfl, hw0, hw1⟩
  conv => whnf
  repeat' (first
    | (refine NilG.mk fun bn hbn => ?_; conv => whnf)
    | (refine Both.mk ?_ ?_ <;> conv => whnf)
    | exact trivial
    | (refine Br.mk (fun hb => ?_) (fun hb => ?_) <;> (first | (exfalso; revert hb; decide) | ((try simp only [BL] at hb) <;> (try simp only [DL] at hb) <;> conv => whnf)))
    | (refine And.intro ?_ ?_; (focus (first | exact id | exact rfl | exact trivial | (intro hg; first | exact hg | exact rfl | (simp; done) | (simp at hg ⊢; assumption)) | omega | decide | exact is2_c _ _ _ | exact is1_c _ _ | exact isS_c _ _ | exact isB_c _ _ | exact Nat.le_refl _ | assumption | exact mulLe (by decide) (by omega) | exact mulLe2 (by decide) (by omega) (by omega) | (intros; simp only [BL] at *; omega) | (intros; (try simp only [BL] at *); (try simp only [DL] at *); omega) | (intros; simp only [BL] at *; rw [wr_id (by omega) (by omega)]; omega) | (intros; simp_all; done))); conv => whnf)
    | (refine Or.inr (And.intro rfl ?_); first | (refine congrArg intV ?_) | (refine congrArg boolV ?_) | (refine tupII ?_ ?_) | (refine tupIII ?_ ?_ ?_) | (refine tupU ?_ ?_ ?_ ?_ ?_) | exact rfl))
  refine CallG.mk (Fn.mono (wlMove s m p q n nx x hn hk hnx) ?_)
  rintro obs r ⟨rfl, rfl⟩
  unfold mvV
  generalize ha1 : (if mvE n nx s m p q x = 0 then (mvF n m p q x n).1 else 0) = a1
  generalize ha2 : (if mvE n nx s m p q x = 0 then (mvF n m p q x n).2.1 else 0) = a2
  generalize ha3 : (if mvE n nx s m p q x = 0 then (mvF n m p q x n).2.2 else 0) = a3
  conv => whnf
  repeat' (first
    | (refine NilG.mk fun bn hbn => ?_; conv => whnf)
    | (refine Both.mk ?_ ?_ <;> conv => whnf)
    | exact trivial
    | (refine Br.mk (fun hb => ?_) (fun hb => ?_) <;> (first | (exfalso; revert hb; decide) | ((try simp only [BL] at hb) <;> (try simp only [DL] at hb) <;> conv => whnf)))
    | (refine And.intro ?_ ?_; (focus (first | exact id | exact rfl | exact trivial | (intro hg; first | exact hg | exact rfl | (simp; done) | (simp at hg ⊢; assumption)) | omega | decide | exact is2_c _ _ _ | exact is1_c _ _ | exact isS_c _ _ | exact isB_c _ _ | exact Nat.le_refl _ | assumption | exact mulLe (by decide) (by omega) | exact mulLe2 (by decide) (by omega) (by omega) | (intros; simp only [BL] at *; omega) | (intros; (try simp only [BL] at *); (try simp only [DL] at *); omega) | (intros; simp only [BL] at *; rw [wr_id (by omega) (by omega)]; omega) | (intros; simp_all; done) | exact isO_c hn hk)); conv => whnf)
    | (refine Or.inr (And.intro rfl ?_); first | (refine congrArg intV ?_) | (refine congrArg boolV ?_) | (refine tupII ?_ ?_) | (refine tupIII ?_ ?_ ?_) | (refine tupU ?_ ?_ ?_ ?_ ?_) | exact rfl))
  · have h0 : offsE n s m p q = 0 := hb.1
    have hE : dxE n nx s m p q x = 3 := by unfold dxE; rw [if_neg (fun h => h h0), if_pos (by omega)]
    have hE2 : mvE n nx s m p q x = 3 := by unfold mvE; rw [if_pos (by rw [hE]; decide), hE]
    rw [hE2] at ha1 ha2 ha3 ⊢
    have hc := hw0 (by rw [hE]; decide)
    rw [hE, hc]
    subst ha1 ha2 ha3
    clear hw0 hw1
    refine sem_loop tab_ok gamW2_ok mixed (by kernel_rfl) (O := lex) (fun i : Nat => ⟨[(0, .c (.sl 2 n (cO s m p q))), (1, .c (.sl 1 nx (c1 x))), (9, intV 0), (10, intV 3), (11, intV 0), (12, intV 0), (13, intV 0), (14, intV 3), (15, intV 3), (16, intV 0), (17, intV 0), (18, intV 0)], []⟩) (fun i => True) (fun i => 0) ⟨0, [], trivial, ?_⟩ fun i hi => ?_
    · refine Sub.of ?_ ?_ ?_
      repeat' (first | (refine And.intro ?_ ?_) | exact trivial | exact fun _ _ _ => hsc _ _ | (exact congrArg intV (by first | with_reducible rfl | with_reducible assumption)) | exact (rfl : AV.idsLt _ _ = true) | exact (rfl : _ = AV.ren _ (.own _)) | exact (rfl : _ = AV.ren _ (.fn _ _)) | exact (rfl : _ = AV.ren _ (.gh _)) | (exact congrArg intV (by assumption)) | (refine congrArg intV ((wr_id (by omega) (by omega)).trans (by omega))) | exact rfl | (simp only [Int.toNat_natCast, Int.toNat_zero, Nat.sub_zero, Nat.zero_add]; first | exact rfl | done) | exact all0 | exact fun h => Bool.noConfusion h | exact fun _ _ _ _ => rfl | omega)
    conv => whnf
    repeat' (first
      | (refine NilG.mk fun bn hbn => ?_; conv => whnf)
      | (refine Both.mk ?_ ?_ <;> conv => whnf)
      | exact trivial
      | (refine Br.mk (fun hb => ?_) (fun hb => ?_) <;> (first | (exfalso; revert hb; decide) | ((try simp only [BL] at hb) <;> (try simp only [DL] at hb) <;> conv => whnf)))
      | (refine And.intro ?_ ?_; (focus (first | exact id | exact rfl | exact trivial | (intro hg; first | exact hg | exact rfl | (simp; done) | (simp at hg ⊢; assumption)) | omega | decide | exact is2_c _ _ _ | exact is1_c _ _ | exact isS_c _ _ | exact isB_c _ _ | exact Nat.le_refl _ | assumption | exact mulLe (by decide) (by omega) | exact mulLe2 (by decide) (by omega) (by omega) | (intros; simp only [BL] at *; omega) | (intros; (try simp only [BL] at *); (try simp only [DL] at *); omega) | (intros; simp only [BL] at *; rw [wr_id (by omega) (by omega)]; omega) | (intros; simp_all; done))); conv => whnf)
      | (refine Or.inr (And.intro rfl ?_); first | (refine congrArg intV ?_) | (refine congrArg boolV ?_) | (refine tupII ?_ ?_) | (refine tupIII ?_ ?_ ?_) | (refine tupU ?_ ?_ ?_ ?_ ?_) | exact rfl))
    · rename_i h; exact absurd h.2 (by decide)
    · rename_i h; exact absurd h.2 (by decide)
    · rfl
  by_cases h0 : offsE n s m p q = 0
  rotate_left
  · have hE : dxE n nx s m p q x = offsE n s m p q := by unfold dxE; rw [if_pos h0]
    have hE2 : mvE n nx s m p q x = offsE n s m p q := by unfold mvE; rw [if_pos (by rw [hE]; exact h0), hE]
    rw [hE2, if_neg h0] at ha1 ha2 ha3
    rw [hE2]
    have hc := hw0 (by rw [hE]; exact h0)
    rw [hE, hc]
    subst ha1 ha2 ha3
    clear hw0 hw1 hb
    refine sem_loop tab_ok gamW2_ok mixed (by kernel_rfl) (O := lex) (fun i : Nat => ⟨[(0, .c (.sl 2 n (cO s m p q))), (1, .c (.sl 1 nx (c1 x))), (9, intV 0), (10, intV (offsE n s m p q)), (11, intV 0), (12, intV 0), (13, intV 0), (14, intV (offsE n s m p q)), (15, intV (offsE n s m p q)), (16, intV 0), (17, intV 0), (18, intV 0)], []⟩) (fun i => True) (fun i => 0) ⟨0, [], trivial, ?_⟩ fun i hi => ?_
    · refine Sub.of ?_ ?_ ?_
      repeat' (first | (refine And.intro ?_ ?_) | exact trivial | exact fun _ _ _ => hsc _ _ | (exact congrArg intV (by first | with_reducible rfl | with_reducible assumption)) | exact (rfl : AV.idsLt _ _ = true) | exact (rfl : _ = AV.ren _ (.own _)) | exact (rfl : _ = AV.ren _ (.fn _ _)) | exact (rfl : _ = AV.ren _ (.gh _)) | (exact congrArg intV (by assumption)) | (refine congrArg intV ((wr_id (by omega) (by omega)).trans (by omega))) | exact rfl | (simp only [Int.toNat_natCast, Int.toNat_zero, Nat.sub_zero, Nat.zero_add]; first | exact rfl | done) | exact all0 | exact fun h => Bool.noConfusion h | exact fun _ _ _ _ => rfl | omega)
    conv => whnf
    repeat' (first
      | (refine NilG.mk fun bn hbn => ?_; conv => whnf)
      | (refine Both.mk ?_ ?_ <;> conv => whnf)
      | exact trivial
      | (refine Br.mk (fun hb => ?_) (fun hb => ?_) <;> (first | (exfalso; revert hb; decide) | ((try simp only [BL] at hb) <;> (try simp only [DL] at hb) <;> conv => whnf)))
      | (refine And.intro ?_ ?_; (focus (first | exact id | exact rfl | exact trivial | (intro hg; first | exact hg | exact rfl | (simp; done) | (simp at hg ⊢; assumption)) | omega | decide | exact is2_c _ _ _ | exact is1_c _ _ | exact isS_c _ _ | exact isB_c _ _ | exact Nat.le_refl _ | assumption | exact mulLe (by decide) (by omega) | exact mulLe2 (by decide) (by omega) (by omega) | (intros; simp only [BL] at *; omega) | (intros; (try simp only [BL] at *); (try simp only [DL] at *); omega) | (intros; simp only [BL] at *; rw [wr_id (by omega) (by omega)]; omega) | (intros; simp_all; done))); conv => whnf)
      | (refine Or.inr (And.intro rfl ?_); first | (refine congrArg intV ?_) | (refine congrArg boolV ?_) | (refine tupII ?_ ?_) | (refine tupIII ?_ ?_ ?_) | (refine tupU ?_ ?_ ?_ ?_ ?_) | exact rfl))
    all_goals first | contradiction | (rename_i h; exact absurd h.2 h0) | simp
  have hl : nx = n := by
    rcases hb with hb | hb
    · exact absurd h0 hb
    · omega
  subst hl
  have hdx : dxE nx nx s m p q x = fst (pwE m p x) nx := by unfold dxE; rw [if_neg (fun h => h h0), if_neg (fun h => h rfl)]
  obtain ⟨hn10, hall⟩ := offsE_zero h0
  have hall2 : ∀ k, k < nx → okOff (m k) (p k) (q k) := fun k hk => (hall k hk).2.1
  have hO0 : offsE nx (dS (cO s m p q)) (oM (cO s m p q)) (oP (cO s m p q)) (oQ (cO s m p q)) = 0 := h0
  rw [hO0]
  clear hb
  refine sem_loop tab_ok gamW2_ok mixed (by kernel_rfl) (O := lex) (fun i : Nat => ⟨[(0, .c (.sl 2 nx (cO s m p q))), (1, .c (.sl 1 nx (c1 x))), (9, intV c), (10, intV (dxE nx nx s m p q x)), (11, intV a1), (12, intV a2), (13, intV a3), (14, intV (mvE nx nx s m p q x)), (15, intV (fst (pwE m p x) i)), (16, intV (sE m p x x i)), (17, intV (sE m p x (cK m p q x) i)), (18, intV i)], []⟩) (fun i => i ≤ nx) (fun i => nx - i) ⟨0, [], Nat.zero_le _, ?_⟩ fun i hi => ?_
  · refine Sub.of ?_ ?_ ?_
    repeat' (first | (refine And.intro ?_ ?_) | exact trivial | exact fun _ _ _ => hsc _ _ | (exact congrArg intV (by first | with_reducible rfl | with_reducible assumption)) | exact (rfl : AV.idsLt _ _ = true) | exact (rfl : _ = AV.ren _ (.own _)) | exact (rfl : _ = AV.ren _ (.fn _ _)) | exact (rfl : _ = AV.ren _ (.gh _)) | (exact congrArg intV (by assumption)) | (refine congrArg intV ((wr_id (by omega) (by omega)).trans (by omega))) | exact rfl | (simp only [Int.toNat_natCast, Int.toNat_zero, Nat.sub_zero, Nat.zero_add]; first | exact rfl | done) | exact all0 | exact fun h => Bool.noConfusion h | exact fun _ _ _ _ => rfl | omega)
  have hall2i := hall2 i
  have hSi : i < nx → 0 ≤ S (p i) (m i) ∧ S (p i) (m i) ≤ 100000 := fun h => ⟨(hall i h).2.2.2, (hall i h).2.2.1⟩
  have hs := dsum (x := x) h0 hi
  conv => whnf
  repeat' (first
    | (refine NilG.mk fun bn hbn => ?_; conv => whnf)
    | (refine Both.mk ?_ ?_ <;> conv => whnf)
    | exact trivial
    | (refine Br.mk (fun hb => ?_) (fun hb => ?_) <;> (first | (exfalso; revert hb; decide) | ((try simp only [BL] at hb) <;> (try simp only [DL] at hb) <;> conv => whnf)))
    | (refine And.intro ?_ ?_; (focus (first | exact id | exact rfl | exact trivial | (intro hg; first | exact hg | exact rfl | (simp; done) | (simp at hg ⊢; assumption)) | omega | decide | exact is2_c _ _ _ | exact is1_c _ _ | exact isS_c _ _ | exact isB_c _ _ | exact Nat.le_refl _ | assumption | exact mulLe (by decide) (by omega) | exact mulLe2 (by decide) (by omega) (by omega) | (intros; simp only [BL] at *; omega) | (intros; (try simp only [BL] at *); (try simp only [DL] at *); omega) | (intros; simp only [BL] at *; rw [wr_id (by omega) (by omega)]; omega) | (intros; simp_all; done) | first | exact ⟨is2_c _ _ _, hall2 i (by omega)⟩ | (refine ⟨is2_c _ _ _, hall2 i (by omega), ?_, ?_⟩ <;> (have := hSi (by omega); simp [inB] at *; omega)))); conv => whnf)
    | (refine Or.inr (And.intro rfl ?_); first | (refine congrArg intV ?_) | (refine congrArg boolV ?_) | (refine tupII ?_ ?_) | (refine tupIII ?_ ?_ ?_) | (refine tupU ?_ ?_ ?_ ?_ ?_) | exact rfl))
  · have hin : i < nx := by rename_i h; omega
    have hf : fst (pwE m p x) i = 0 := by rename_i h; exact h.2
    have h1 : pwE m p x i = 4 := by unfold pwE; rw [if_pos (by omega)]
    have e1 : fst (pwE m p x) (i + 1) = 4 := (fst_at hf (by rw [h1]; decide) (Nat.lt_succ_self i)).trans h1
    have e2 : (4 : Int) = fst (pwE m p x) (i + 1) := e1.symm
    have e3 : sE m p x x i = sE m p x x (i + 1) := by unfold sE; rw [if_pos hf, if_neg (by rw [e1]; decide)]; rfl
    have e4 : sE m p x (cK m p q x) i = sE m p x (cK m p q x) (i + 1) := by unfold sE; rw [if_pos hf, if_neg (by rw [e1]; decide)]; rfl
    refine ⟨i + 1, [], by omega, by omega, ?_⟩
    refine Sub.of ?_ ?_ ?_
    repeat' (first | (refine And.intro ?_ ?_) | exact trivial | exact fun _ _ _ => hsc _ _ | (exact congrArg intV (by first | with_reducible rfl | with_reducible assumption)) | exact (rfl : AV.idsLt _ _ = true) | exact (rfl : _ = AV.ren _ (.own _)) | exact (rfl : _ = AV.ren _ (.fn _ _)) | exact (rfl : _ = AV.ren _ (.gh _)) | (exact congrArg intV (by assumption)) | (refine congrArg intV ((wr_id (by omega) (by omega)).trans (by omega))) | exact rfl | (simp only [Int.toNat_natCast, Int.toNat_zero, Nat.sub_zero, Nat.zero_add]; first | exact rfl | done) | exact all0 | exact fun h => Bool.noConfusion h | exact fun _ _ _ _ => rfl | omega)
  · have hin : i < nx := by rename_i h; omega
    have hf : fst (pwE m p x) i = 0 := by rename_i h; exact h.2
    have h1 : pwE m p x i = 0 := by unfold pwE; rw [if_neg (by omega)]
    have e1 : fst (pwE m p x) (i + 1) = 0 := fst_next hf h1
    have e2 : fst (pwE m p x) i = fst (pwE m p x) (i + 1) := by rw [hf, e1]
    have hs' := dsum (x := x) h0 (i := i + 1) (by omega) e1
    have hs := hs hf
    have a1 : sE m p x x i = S x i := if_pos hf
    have a2 : sE m p x (cK m p q x) i = S (cK m p q x) i := if_pos hf
    have a3 : sE m p x x (i + 1) = S x (i + 1) := if_pos e1
    have a4 : sE m p x (cK m p q x) (i + 1) = S (cK m p q x) (i + 1) := if_pos e1
    have e3 : IntKind.i64.wrap (sE m p x x i + x i) = sE m p x x (i + 1) := by
      rw [a1, a3]
      exact wr_id (by simp only [S] at hs'; omega) (by simp only [S] at hs'; omega)
    have e4 : IntKind.i64.wrap (sE m p x (cK m p q x) i + S (ct (p i) (q i) (x i)) (m i)) = sE m p x (cK m p q x) (i + 1) := by
      rw [a2, a4]
      exact wr_id (by simp only [S, cK] at hs' ⊢; omega) (by simp only [S, cK] at hs' ⊢; omega)
    refine ⟨i + 1, [], by omega, by omega, ?_⟩
    refine Sub.of ?_ ?_ ?_
    repeat' (first | (refine And.intro ?_ ?_) | exact trivial | exact fun _ _ _ => hsc _ _ | (exact congrArg intV (by first | with_reducible rfl | with_reducible assumption)) | exact (rfl : AV.idsLt _ _ = true) | exact (rfl : _ = AV.ren _ (.own _)) | exact (rfl : _ = AV.ren _ (.fn _ _)) | exact (rfl : _ = AV.ren _ (.gh _)) | (exact congrArg intV (by assumption)) | (refine congrArg intV ((wr_id (by omega) (by omega)).trans (by omega))) | exact rfl | (simp only [Int.toNat_natCast, Int.toNat_zero, Nat.sub_zero, Nat.zero_add]; first | exact rfl | done) | exact all0 | exact fun h => Bool.noConfusion h | exact fun _ _ _ _ => rfl | omega)
  · have hf : ¬ fst (pwE m p x) i = 0 := hb
    have hE : dxE nx nx s m p q x = fst (pwE m p x) i := hdx.trans (fst_ge hf hi)
    have hE2 : mvE nx nx s m p q x = fst (pwE m p x) i := by unfold mvE; rw [if_pos (by rw [hE]; exact hf), hE]
    rw [hE2, if_neg hf] at ha1 ha2 ha3
    have hc := hw0 (by rw [hE]; exact hf)
    rw [hE2, hE, hc, ← ha1, ← ha2, ← ha3]
    simp
  · rfl
  have hf : fst (pwE m p x) i = 0 := by rename_i h; exact h
  have hin : i = nx := by rename_i h _; omega
  subst hin
  have hE0 : dxE i i s m p q x = 0 := hdx.trans hf
  obtain ⟨π, hq, hc⟩ := hw1 hE0
  obtain ⟨_, _, hx, hS0, hS1, hS2⟩ := dx_zero hE0
  have hD := dck_dx hE0
  obtain ⟨B, hB, hs2, hc1, hc2, hc3⟩ := bCost_b hD hq
  have a1' : sE m p x x i = S x i := if_pos hf
  have a2' : sE m p x (cK m p q x) i = S (cK m p q x) i := if_pos hf
  rw [a1', a2']
  refine CallG.mk (Fn.mono (served s m p q i (S x i) π h0 ⟨hS0, hS1⟩ hs2) ?_)
  rintro obs r ⟨rfl, rfl⟩
  have hXk : ∀ k, k < i → 0 ≤ (fun k => bX m p i π (S x i) k (oN m i)) k ∧ (fun k => bX m p i π (S x i) k (oN m i)) k ≤ S (p k) (m k) := fun k hk => bX_s hs2 hB hk
  rw [hc1] at hc
  generalize (fun k => bX m p i π (S x i) k (oN m i)) = X at *
  have hx2 : ∀ k, k < i → okOff (m k) (p k) (q k) ∧ 0 ≤ X k ∧ X k ≤ 2000000 := fun k hk => by
    have := hXk k hk
    have := hall k hk
    exact ⟨this.2.1, by omega, by omega⟩
  have hs := hs hf
  have hE2 : mvE i i s m p q x = if (mvF i m p q x i).2.2 = 0 then 8 else 0 := by unfold mvE; rw [if_neg (fun h => h hE0)]
  rw [hE0]
  generalize mvE i i s m p q x = E2 at *
  clear hw0 hw1 hq hB hs2 hc1 hb a1' a2' hD hO0 hdx
  conv => whnf
  repeat' (first
    | (refine NilG.mk fun bn hbn => ?_; conv => whnf)
    | (refine Both.mk ?_ ?_ <;> conv => whnf)
    | exact trivial
    | (refine Br.mk (fun hb => ?_) (fun hb => ?_) <;> (first | (exfalso; revert hb; decide) | ((try simp only [BL] at hb) <;> (try simp only [DL] at hb) <;> conv => whnf)))
    | (refine And.intro ?_ ?_; (focus (first | exact id | exact rfl | exact trivial | (intro hg; first | exact hg | exact rfl | (simp; done) | (simp at hg ⊢; assumption)) | omega | decide | exact is2_c _ _ _ | exact is1_c _ _ | exact isS_c _ _ | exact isB_c _ _ | exact Nat.le_refl _ | assumption | exact mulLe (by decide) (by omega) | exact mulLe2 (by decide) (by omega) (by omega) | (intros; simp only [BL] at *; omega) | (intros; (try simp only [BL] at *); (try simp only [DL] at *); omega) | (intros; simp only [BL] at *; rw [wr_id (by omega) (by omega)]; omega) | (intros; simp_all; done))); conv => whnf)
    | (refine Or.inr (And.intro rfl ?_); first | (refine congrArg intV ?_) | (refine congrArg boolV ?_) | (refine tupII ?_ ?_) | (refine tupIII ?_ ?_ ?_) | (refine tupU ?_ ?_ ?_ ?_ ?_) | exact rfl))
  have e17 : S (cK m p q x) i = S (cK m p q x) i - S (cK m p q X) 0 := (Int.sub_zero _).symm
  refine sem_loop tab_ok gamW2_ok mixed (by kernel_rfl) (O := lex) (fun k : Nat => ⟨[(0, .c (.sl 2 i (cO s m p q))), (1, .c (.sl 1 i (c1 x))), (9, intV c), (10, intV 0), (11, intV a1), (12, intV a2), (13, intV a3), (14, intV E2), (17, intV (S (cK m p q x) i - S (cK m p q X) k)), (146, .c (.sl 1 i (c1 X))), (147, intV i), (148, intV k)], []⟩) (fun k => k ≤ i) (fun k => i - k) ⟨0, [], Nat.zero_le _, ?_⟩ fun k hkn => ?_
  · refine Sub.of ?_ ?_ ?_
    repeat' (first | (refine And.intro ?_ ?_) | exact trivial | exact fun _ _ _ => hsc _ _ | (exact congrArg intV (by first | with_reducible rfl | with_reducible assumption)) | exact (rfl : AV.idsLt _ _ = true) | exact (rfl : _ = AV.ren _ (.own _)) | exact (rfl : _ = AV.ren _ (.fn _ _)) | exact (rfl : _ = AV.ren _ (.gh _)) | (exact congrArg intV (by assumption)) | (refine congrArg intV ((wr_id (by omega) (by omega)).trans (by omega))) | exact rfl | (simp only [Int.toNat_natCast, Int.toNat_zero, Nat.sub_zero, Nat.zero_add]; first | exact rfl | done) | exact all0 | exact fun h => Bool.noConfusion h | exact fun _ _ _ _ => rfl | omega)
  clear e17
  have ew : k < i → IntKind.i64.wrap (S (cK m p q x) i - S (cK m p q X) k - S (ct (p k) (q k) (X k)) (m k)) = S (cK m p q x) i - S (cK m p q X) (k + 1) := fun h => by
    have h2 := fun z (hz : z ≤ i) => S_le (p := cK m p q X) (a := -1200000000000) (b := 1200000000000) (k := z) fun j hj => C_le (hall2 j (by omega)) _ (Nat.le_refl _)
    have k1 := h2 k (by omega)
    have k2 := h2 (k + 1) h
    have k3 : S (cK m p q X) (k + 1) = S (cK m p q X) k + S (ct (p k) (q k) (X k)) (m k) := rfl
    rw [k3] at k2 ⊢
    rw [wr_id (by omega) (by omega)]
    omega
  conv => whnf
  repeat' (first
    | (refine NilG.mk fun bn hbn => ?_; conv => whnf)
    | (refine Both.mk ?_ ?_ <;> conv => whnf)
    | exact trivial
    | (refine Br.mk (fun hb => ?_) (fun hb => ?_) <;> (first | (exfalso; revert hb; decide) | ((try simp only [BL] at hb) <;> (try simp only [DL] at hb) <;> conv => whnf)))
    | (refine And.intro ?_ ?_; (focus (first | exact id | exact rfl | exact trivial | (intro hg; first | exact hg | exact rfl | (simp; done) | (simp at hg ⊢; assumption)) | omega | decide | exact is2_c _ _ _ | exact is1_c _ _ | exact isS_c _ _ | exact isB_c _ _ | exact Nat.le_refl _ | assumption | exact mulLe (by decide) (by omega) | exact mulLe2 (by decide) (by omega) (by omega) | (intros; simp only [BL] at *; omega) | (intros; (try simp only [BL] at *); (try simp only [DL] at *); omega) | (intros; simp only [BL] at *; rw [wr_id (by omega) (by omega)]; omega) | (intros; simp_all; done) | exact ⟨is2_c _ _ _, hx2 k (by omega)⟩)); conv => whnf)
    | (refine Or.inr (And.intro rfl ?_); first | (refine congrArg intV ?_) | (refine congrArg boolV ?_) | (refine tupII ?_ ?_) | (refine tupIII ?_ ?_ ?_) | (refine tupU ?_ ?_ ?_ ?_ ?_) | exact rfl))
  · have ew := ew (by omega)
    refine ⟨k + 1, [], by omega, by omega, ?_⟩
    refine Sub.of ?_ ?_ ?_
    repeat' (first | (refine And.intro ?_ ?_) | exact trivial | exact fun _ _ _ => hsc _ _ | (exact congrArg intV (by first | with_reducible rfl | with_reducible assumption)) | exact (rfl : AV.idsLt _ _ = true) | exact (rfl : _ = AV.ren _ (.own _)) | exact (rfl : _ = AV.ren _ (.fn _ _)) | exact (rfl : _ = AV.ren _ (.gh _)) | (exact congrArg intV (by assumption)) | (refine congrArg intV ((wr_id (by omega) (by omega)).trans (by omega))) | exact rfl | (simp only [Int.toNat_natCast, Int.toNat_zero, Nat.sub_zero, Nat.zero_add]; first | exact rfl | done) | exact all0 | exact fun h => Bool.noConfusion h | exact fun _ _ _ _ => rfl | omega)
  · have hki : k = i := by omega
    rw [hki] at hb
    rcases hb with h | h
    · exact absurd trivial h
    · exact absurd hc h
  have hmv := mvF_b i m p q x hall2
  clear hb ew
  refine sem_loop tab_ok gamW2_ok mixed (by kernel_rfl) (O := lex) (fun a : Nat => ⟨[(0, .c (.sl 2 i (cO s m p q))), (1, .c (.sl 1 i (c1 x))), (11, intV a1), (12, intV a2), (13, intV a3), (14, intV E2), (21, intV (mvF i m p q x a).1), (22, intV (mvF i m p q x a).2.1), (23, intV (mvF i m p q x a).2.2), (169, .c (.sl 2 i (cO s m p q))), (170, intV i), (171, intV a)], []⟩) (fun a => a ≤ i) (fun a => i - a) ⟨0, [], Nat.zero_le _, ?_⟩ fun a hai => ?_
  · refine Sub.of ?_ ?_ ?_
    repeat' (first | (refine And.intro ?_ ?_) | exact trivial | exact fun _ _ _ => hsc _ _ | (exact congrArg intV (by first | with_reducible rfl | with_reducible assumption)) | exact (rfl : AV.idsLt _ _ = true) | exact (rfl : _ = AV.ren _ (.own _)) | exact (rfl : _ = AV.ren _ (.fn _ _)) | exact (rfl : _ = AV.ren _ (.gh _)) | (exact congrArg intV (by assumption)) | (refine congrArg intV ((wr_id (by omega) (by omega)).trans (by omega))) | exact rfl | (simp only [Int.toNat_natCast, Int.toNat_zero, Nat.sub_zero, Nat.zero_add]; first | exact rfl | done) | exact all0 | exact fun h => Bool.noConfusion h | exact fun _ _ _ _ => rfl | omega)
  have hba := hmv a hai
  conv => whnf
  repeat' (first
    | (refine NilG.mk fun bn hbn => ?_; conv => whnf)
    | (refine Both.mk ?_ ?_ <;> conv => whnf)
    | exact trivial
    | (refine Br.mk (fun hb => ?_) (fun hb => ?_) <;> (first | (exfalso; revert hb; decide) | ((try simp only [BL] at hb) <;> (try simp only [DL] at hb) <;> conv => whnf)))
    | (refine And.intro ?_ ?_; (focus (first | exact id | exact rfl | exact trivial | (intro hg; first | exact hg | exact rfl | (simp; done) | (simp at hg ⊢; assumption)) | omega | decide | exact is2_c _ _ _ | exact is1_c _ _ | exact isS_c _ _ | exact isB_c _ _ | exact Nat.le_refl _ | assumption | exact mulLe (by decide) (by omega) | exact mulLe2 (by decide) (by omega) (by omega) | (intros; simp only [BL] at *; omega) | (intros; (try simp only [BL] at *); (try simp only [DL] at *); omega) | (intros; simp only [BL] at *; rw [wr_id (by omega) (by omega)]; omega) | (intros; simp_all; done))); conv => whnf)
    | (refine Or.inr (And.intro rfl ?_); first | (refine congrArg intV ?_) | (refine congrArg boolV ?_) | (refine tupII ?_ ?_) | (refine tupIII ?_ ?_ ?_) | (refine tupU ?_ ?_ ?_ ?_ ?_) | exact rfl))
  · have hai2 : a < i := by omega
    have hUa := U_b (hall2 a hai2) (x a - 1)
    have hxa := hx a hai2
    have hSa := hall a hai2
    clear hb
    refine sem_loop tab_ok gamW2_ok mixed (by kernel_rfl) (O := lex) (fun k : Nat => ⟨[(0, .c (.sl 2 i (cO s m p q))), (1, .c (.sl 1 i (c1 x))), (11, intV a1), (12, intV a2), (13, intV a3), (14, intV E2), (21, intV (mvI m p q x (mvF i m p q x a) a k).1), (22, intV (mvI m p q x (mvF i m p q x a) a k).2.1), (23, intV (mvI m p q x (mvF i m p q x a) a k).2.2), (24, intV a), (25, .lp 0 0), (169, .c (.sl 2 i (cO s m p q))), (170, intV i), (171, intV a), (176, .c (.sl 2 i (cO s m p q))), (177, intV i), (178, intV k)], [.box [strV (s a), .c (.sl 2 (m a) (c2 (p a) (q a)))]]⟩) (fun k => k ≤ i) (fun k => i - k) ⟨0, [?_], Nat.zero_le _, ?_⟩ fun k hkn => ?_
    rotate_left 1
    · refine Sub.of ?_ ?_ ?_
      repeat' (first | (refine And.intro ?_ ?_) | exact trivial | exact fun _ _ _ => hsc _ _ | (exact congrArg intV (by first | with_reducible rfl | with_reducible assumption)) | exact (rfl : AV.idsLt _ _ = true) | exact (rfl : _ = AV.ren _ (.own _)) | exact (rfl : _ = AV.ren _ (.fn _ _)) | exact (rfl : _ = AV.ren _ (.gh _)) | (exact congrArg intV (by assumption)) | (refine congrArg intV ((wr_id (by omega) (by omega)).trans (by omega))) | exact rfl | (simp only [Int.toNat_natCast, Int.toNat_zero, Nat.sub_zero, Nat.zero_add]; first | exact rfl | done) | exact all0 | exact fun h => Bool.noConfusion h | exact fun _ _ _ _ => rfl | omega)
    have hbk := mvI_b i m p q x hall2 hai2 hba k hkn
    have hstep : mvI m p q x (mvF i m p q x a) a (k + 1) = mvS m p q x (mvI m p q x (mvF i m p q x a) a k) a k := rfl
    have hkk := hall2 k
    have exw : IntKind.i64.wrap (x a - 1) = x a - 1 := wr_id (by omega) (by omega)
    conv => whnf
    repeat' (first
      | (refine NilG.mk fun bn hbn => ?_; conv => whnf)
      | (refine Both.mk ?_ ?_ <;> conv => whnf)
      | exact trivial
      | (refine Br.mk (fun hb => ?_) (fun hb => ?_) <;> (first | (exfalso; revert hb; decide) | ((try simp only [BL] at hb) <;> (try simp only [DL] at hb) <;> conv => whnf)))
      | (refine And.intro ?_ ?_; (focus (first | exact id | exact rfl | exact trivial | (intro hg; first | exact hg | exact rfl | (simp; done) | (simp at hg ⊢; assumption)) | omega | decide | exact is2_c _ _ _ | exact is1_c _ _ | exact isS_c _ _ | exact isB_c _ _ | exact Nat.le_refl _ | assumption | exact mulLe (by decide) (by omega) | exact mulLe2 (by decide) (by omega) (by omega) | (intros; simp only [BL] at *; omega) | (intros; (try simp only [BL] at *); (try simp only [DL] at *); omega) | (intros; simp only [BL] at *; rw [wr_id (by omega) (by omega)]; omega) | (intros; simp_all; done) | first | exact ⟨is2_c _ _ _, hall2 k (by omega)⟩ | exact fun _ => ⟨is2_c _ _ _, hall2 k (by omega)⟩ | exact ⟨is2_c _ _ _, hall2 a hai2⟩)); conv => whnf)
      | (refine Or.inr (And.intro rfl ?_); first | (refine congrArg intV ?_) | (refine congrArg boolV ?_) | (refine tupII ?_ ?_) | (refine tupIII ?_ ?_ ?_) | (refine tupU ?_ ?_ ?_ ?_ ?_) | exact rfl))
    · have hk2 : k < i := by omega
      have hUk := U_b (hkk hk2) (x k)
      rename_i hc9
      rw [exw, wr_id (by omega) (by omega)] at hb
      have e1 : mvI m p q x (mvF i m p q x a) a (k + 1) = ((a : Int), (k : Int), U (p a) (q a) (m a) (x a - 1) - U (p k) (q k) (m k) (x k)) := by
        rw [hstep]
        unfold mvS
        rw [if_pos ⟨⟨by omega, hc9.1.2, hc9.2⟩, hb⟩]
      have e2 : (a : Int) = (mvI m p q x (mvF i m p q x a) a (k + 1)).1 := by rw [e1]
      have e3 : (k : Int) = (mvI m p q x (mvF i m p q x a) a (k + 1)).2.1 := by rw [e1]
      have e4 : IntKind.i64.wrap (U (p a) (q a) (m a) (IntKind.i64.wrap (x a - 1)) - U (p k) (q k) (m k) (x k)) = (mvI m p q x (mvF i m p q x a) a (k + 1)).2.2 := by
        rw [exw, wr_id (by omega) (by omega), e1]
      refine ⟨k + 1, [?_], by omega, by omega, ?_⟩
      rotate_left 1
      refine Sub.of ?_ ?_ ?_
      repeat' (first | (refine And.intro ?_ ?_) | exact trivial | exact fun _ _ _ => hsc _ _ | (exact congrArg intV (by first | with_reducible rfl | with_reducible assumption)) | exact (rfl : AV.idsLt _ _ = true) | exact (rfl : _ = AV.ren _ (.own _)) | exact (rfl : _ = AV.ren _ (.fn _ _)) | exact (rfl : _ = AV.ren _ (.gh _)) | (exact congrArg intV (by assumption)) | (refine congrArg intV ((wr_id (by omega) (by omega)).trans (by omega))) | exact rfl | (simp only [Int.toNat_natCast, Int.toNat_zero, Nat.sub_zero, Nat.zero_add]; first | exact rfl | done) | exact all0 | exact fun h => Bool.noConfusion h | exact fun _ _ _ _ => rfl | omega)
    · have hk2 : k < i := by omega
      have hUk := U_b (hkk hk2) (x k)
      rw [exw, wr_id (by omega) (by omega)] at hb
      have e1 : mvI m p q x (mvF i m p q x a) a k = mvI m p q x (mvF i m p q x a) a (k + 1) := by
        rw [hstep]
        unfold mvS
        rw [if_neg (fun hh => hb hh.2)]
      have e2 : (mvI m p q x (mvF i m p q x a) a k).1 = (mvI m p q x (mvF i m p q x a) a (k + 1)).1 := by rw [← e1]
      have e3 : (mvI m p q x (mvF i m p q x a) a k).2.1 = (mvI m p q x (mvF i m p q x a) a (k + 1)).2.1 := by rw [← e1]
      have e4 : (mvI m p q x (mvF i m p q x a) a k).2.2 = (mvI m p q x (mvF i m p q x a) a (k + 1)).2.2 := by rw [← e1]
      refine ⟨k + 1, [?_], by omega, by omega, ?_⟩
      rotate_left 1
      refine Sub.of ?_ ?_ ?_
      repeat' (first | (refine And.intro ?_ ?_) | exact trivial | exact fun _ _ _ => hsc _ _ | (exact congrArg intV (by first | with_reducible rfl | with_reducible assumption)) | exact (rfl : AV.idsLt _ _ = true) | exact (rfl : _ = AV.ren _ (.own _)) | exact (rfl : _ = AV.ren _ (.fn _ _)) | exact (rfl : _ = AV.ren _ (.gh _)) | (exact congrArg intV (by assumption)) | (refine congrArg intV ((wr_id (by omega) (by omega)).trans (by omega))) | exact rfl | (simp only [Int.toNat_natCast, Int.toNat_zero, Nat.sub_zero, Nat.zero_add]; first | exact rfl | done) | exact all0 | exact fun h => Bool.noConfusion h | exact fun _ _ _ _ => rfl | omega)
    · have hk2 : k < i := by omega
      have e1 : mvI m p q x (mvF i m p q x a) a k = mvI m p q x (mvF i m p q x a) a (k + 1) := by
        rw [hstep]
        unfold mvS
        rw [if_neg (fun hh => by omega)]
      have e2 : (mvI m p q x (mvF i m p q x a) a k).1 = (mvI m p q x (mvF i m p q x a) a (k + 1)).1 := by rw [← e1]
      have e3 : (mvI m p q x (mvF i m p q x a) a k).2.1 = (mvI m p q x (mvF i m p q x a) a (k + 1)).2.1 := by rw [← e1]
      have e4 : (mvI m p q x (mvF i m p q x a) a k).2.2 = (mvI m p q x (mvF i m p q x a) a (k + 1)).2.2 := by rw [← e1]
      refine ⟨k + 1, [?_], by omega, by omega, ?_⟩
      rotate_left 1
      refine Sub.of ?_ ?_ ?_
      repeat' (first | (refine And.intro ?_ ?_) | exact trivial | exact fun _ _ _ => hsc _ _ | (exact congrArg intV (by first | with_reducible rfl | with_reducible assumption)) | exact (rfl : AV.idsLt _ _ = true) | exact (rfl : _ = AV.ren _ (.own _)) | exact (rfl : _ = AV.ren _ (.fn _ _)) | exact (rfl : _ = AV.ren _ (.gh _)) | (exact congrArg intV (by assumption)) | (refine congrArg intV ((wr_id (by omega) (by omega)).trans (by omega))) | exact rfl | (simp only [Int.toNat_natCast, Int.toNat_zero, Nat.sub_zero, Nat.zero_add]; first | exact rfl | done) | exact all0 | exact fun h => Bool.noConfusion h | exact fun _ _ _ _ => rfl | omega)
    · obtain rfl : k = i := by omega
      have e1 : mvI m p q x (mvF k m p q x a) a k = mvF k m p q x (a + 1) := rfl
      have e2 : (mvI m p q x (mvF k m p q x a) a k).1 = (mvF k m p q x (a + 1)).1 := by rw [← e1]
      have e3 : (mvI m p q x (mvF k m p q x a) a k).2.1 = (mvF k m p q x (a + 1)).2.1 := by rw [← e1]
      have e4 : (mvI m p q x (mvF k m p q x a) a k).2.2 = (mvF k m p q x (a + 1)).2.2 := by rw [← e1]
      refine ⟨a + 1, [], by omega, by omega, ?_⟩
      refine Sub.of ?_ ?_ ?_
      repeat' (first | (refine And.intro ?_ ?_) | exact trivial | exact fun _ _ _ => hsc _ _ | (exact congrArg intV (by first | with_reducible rfl | with_reducible assumption)) | exact (rfl : AV.idsLt _ _ = true) | exact (rfl : _ = AV.ren _ (.own _)) | exact (rfl : _ = AV.ren _ (.fn _ _)) | exact (rfl : _ = AV.ren _ (.gh _)) | (exact congrArg intV (by assumption)) | (refine congrArg intV ((wr_id (by omega) (by omega)).trans (by omega))) | exact rfl | (simp only [Int.toNat_natCast, Int.toNat_zero, Nat.sub_zero, Nat.zero_add]; first | exact rfl | done) | exact all0 | exact fun h => Bool.noConfusion h | exact fun _ _ _ _ => rfl | omega)
  · obtain rfl : a = i := by omega
    rw [if_pos hb] at hE2
    subst hE2
    rw [← ha1, ← ha2, ← ha3]
    rfl
  · obtain rfl : a = i := by omega
    rw [if_neg hb] at hE2
    subst hE2
    rw [← ha1, ← ha2, ← ha3]
    simp

theorem welfareMoves_own : ownKnob Try.prog.godebug = none := by kernel_rfl
theorem welfareMoves_laid : laidOutB Try.prog = true := by kernel_rfl

set_option maxRecDepth 100000 in
theorem welfareMoves_lifted (os : Os) (started : os.Started) (H : Type) (enc : TypeId × Value → H) :
    ReturnsInHanded {} Try.checked os 13 .any (Rows.welfareMovesSpec.pre6 enc Try.prog Try.f13 Rows.welfareMovesRow.domain false) (Rows.welfareMovesSpec.post enc Try.prog Try.f13 false true false false) := by
  refine returnsInHanded_of_change (C := Try.checked) welfareMoves_own started (by kernel_rfl) Try.func13
    (ChangeSpec.witness6 (enc := enc) (C := Try.checked) false ⟨#[], #[.slice none 0 0, .slice none 0 0], []⟩ 8 (by kernel_rfl) (by kernel_rfl) (by kernel_rfl) (by kernel_rfl)) ?_
  intro W base args ds gs before hval0 hW hcnd _
  have hval : ∀ (j : Nat) t v, Try.f13.params[j]? = some t → args[j]? = some v → Value.okWide Try.prog W .any base t v := hval0
  have hW' : DataW.Whole enc Try.prog Try.f13.params.toList Rows.welfareMovesSpec.vars false W args.toList ds gs before := hW
  exact law_post (P := Try.prog) [.sl tyOff, .sl (.i .i64)] (by kernel_rfl) welfareMoves_laid (by kernel_rfl) rfl (tb := 4) rfl (by kernel_rfl) (fun ds h => by
    match ds, h with
    | [d1, d2], _ => rfl) (fun x hx => wlLaw (fun k => (x.1.2 k).1) (fun k => (x.1.2 k).2.1.1) (fun k i => ((x.1.2 k).2.1.2 i).1) (fun k i => ((x.1.2 k).2.1.2 i).2.1) x.1.1 x.2.1.1 x.2.1.2 hx.1.1 (fun k hk => ⟨(hx.1.2 k hk).1, (hx.1.2 k hk).2.1.1⟩) hx.2.1.1) W args ds gs before hval hW'

theorem welfareMoves_holds : Rows.WelfareMovesSaid :=
  OpenClaim.holds_of_wide 13 Try.f13 rfl rfl rfl rfl rfl rfl rfl ⟨rfl, rfl, rfl, rfl, rfl⟩ rfl rfl rfl rfl rfl (by kernel_rfl) Try.func13 (by kernel_rfl)
    (of_decide_eq_true (by kernel_rfl)) (by unfold Func.isWrapper; rw [if_neg (by decide +kernel)]; exact ⟨rfl, rfl⟩)
    (fun os started H enc _ => welfareMoves_lifted os started H enc)
end Go.Proofs.Ytdakikgebfphmaa
