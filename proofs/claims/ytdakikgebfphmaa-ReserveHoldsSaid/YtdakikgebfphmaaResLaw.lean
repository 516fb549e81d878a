/-
  ReserveHolds holds: reserve.Possible, Held and Outage return what the definitions say, whatever the input.
-/
import Derived.Test.YtdakikgebfphmaaRes
import Derived.Test.YtdakikgebfphmaaVmS
namespace Go.Proofs.Ytdakikgebfphmaa
open Go.RowKit Go.ChangeShapes Go.WideShapes

def gamR4 : Gam := fun f => match f with
  | 32 => some (sRul fun n s m p q g => intV (unE n s m p q g))
  | 29 => some (sRul fun n s m p q g => posV n s m p q g)
  | 28 => some (sRuls fun n s m p q g k x => helV n s m p q g k x)
  | 30 => some (sRuls fun n s m p q g k x => outV n s m p q g k x)
  | 31 => some (sRul fun n s m p q g => intV (unE n s m p q g))
  | 22 => some (s3 inB)
  | 26 => some (sO (fun _ n p q => okOff n p q) fun _ n p _ => intV (S p n))
  | _ => none
theorem gamR4_ok : GOk Try.prog gamR4 := fun f g h => by
  unfold gamR4 at h
  split at h
  · injection h with h; subst h; exact sRul_ok fun s m p q g n h1 h2 => resCheck s m p q g n h1 h2
  · injection h with h; subst h; exact sRul_ok fun s m p q g n h1 h2 => resPossible s m p q g n h1 h2
  · injection h with h; subst h; exact sRuls_ok fun s m p q g n k x h1 h2 h3 => resHolds s m p q g n k x h1 h2 h3
  · injection h with h; subst h; exact sRuls_ok fun s m p q g n k x h1 h2 h3 => resOutage s m p q g n k x h1 h2 h3
  · injection h with h; subst h; exact sRul_ok fun s m p q g n h1 h2 => unitsErr s m p q g n h1 h2
  · injection h with h; subst h; exact s3_ok in3
  · injection h with h; subst h; exact sO_ok offAll
  · cases h

/-- the error behind i powers, from e0 on -/
def eB (m : Nat → Nat) (p : Nat → Nat → Int) (x : Nat → Int) (e0 : Int) : Nat → Int
  | 0 => e0
  | k + 1 => if eB m p x e0 k ≠ 0 then eB m p x e0 k else pwE m p x k
theorem eB_zero {m : Nat → Nat} {p : Nat → Nat → Int} {x : Nat → Int} : ∀ k, eB m p x 0 k = fst (pwE m p x) k
  | 0 => rfl
  | k + 1 => by simp only [eB, fst, eB_zero k]
theorem eB_keep {m : Nat → Nat} {p : Nat → Nat → Int} {x : Nat → Int} {e0 : Int} {i : Nat} (h : eB m p x e0 i ≠ 0) : ∀ n, i ≤ n → eB m p x e0 n = eB m p x e0 i
  | 0, hn => by obtain rfl : i = 0 := by omega
                rfl
  | n + 1, hn => by
    rcases Nat.eq_or_lt_of_le hn with rfl | hlt
    · rfl
    · have := eB_keep h n (by omega)
      simp only [eB]
      rw [this, if_pos h]
/-- the sum of the first k without i -/
def oth (h : Nat → Int) (i k : Nat) : Int := S h k - if i < k then h i else 0
theorem oth_next {h : Nat → Int} {i k : Nat} (hne : k ≠ i) : oth h i (k + 1) = oth h i k + h k := by
  unfold oth
  simp only [S]
  by_cases hlt : i < k
  · rw [if_pos hlt, if_pos (by omega)]; omega
  · rw [if_neg hlt, if_neg (by omega)]; omega
theorem oth_same {h : Nat → Int} {i : Nat} : oth h i (i + 1) = oth h i i := by
  unfold oth
  simp only [S]
  rw [if_pos (by omega), if_neg (by omega)]; omega

set_option maxHeartbeats 4000000 in
theorem resLaw (s : Nat → ByteArray) (m : Nat → Nat) (p q : Nat → Nat → Int) (g : Nat → Int) (n nx : Nat) (x : Nat → Int) (hB : n * 40 ≤ 140737488355328) (hk : ∀ k, k < n → (s k).size ≤ maxLen ∧ m k ≤ maxLen) (hnx : nx ≤ maxLen) :
    Fn1 Try.prog 5 [.c (.sl 3 n (cRu s m p q g)), .c (.sl 1 nx (c1 x))] (boolV true) := by
  refine fn_of_wpx (O := lex) tab_ok gamR4_ok mixed Try.func5 (by kernel_rfl) rfl rfl rfl (by simp [Try.ntmps5]) (by kernel_rfl) ?_
  have hn' : n ≤ 9223372036854775807 := by omega
  have hnx' : nx ≤ 9223372036854775807 := hnx
  conv => whnf
  repeat' (first
    | (refine NilG.mk fun bn hbn => ?_; conv => whnf)
    | (refine Both.mk ?_ ?_ <;> conv => whnf)
    | exact trivial
    | (refine Br.mk (fun hb => ?_) (fun hb => ?_) <;> (first | (exfalso; revert hb; decide) | ((try simp only [BL] at hb) <;> (try simp only [DL] at hb) <;> conv => whnf)))
    | (refine And.intro ?_ ?_; (focus (first | exact id | exact rfl | exact trivial | (intro hg; first | exact hg | exact rfl | (simp; done) | (simp at hg ⊢; assumption)) | omega | decide | exact is2_c _ _ _ | exact is1_c _ _ | exact isS_c _ _ | exact isB_c _ _ | exact Nat.le_refl _ | assumption | exact mulLe (by decide) (by omega) | exact mulLe2 (by decide) (by omega) (by omega) | (intros; simp only [BL] at *; omega) | (intros; (try simp only [BL] at *); (try simp only [DL] at *); omega) | (intros; simp only [BL] at *; rw [wr_id (by omega) (by omega)]; omega) | (intros; simp_all; done))); conv => whnf)
    | (refine Or.inr (And.intro rfl ?_); first | (refine congrArg intV ?_) | (refine congrArg boolV ?_) | (refine tupII ?_ ?_) | (refine tupIII ?_ ?_ ?_) | (refine tupU ?_ ?_ ?_ ?_ ?_) | exact rfl))
  refine CallG.mk (Fn.mono (two _) ?_)
  rintro obs r ⟨rfl, rfl⟩
  conv => whnf
  repeat' (first
    | (refine NilG.mk fun bn hbn => ?_; conv => whnf)
    | (refine Both.mk ?_ ?_ <;> conv => whnf)
    | exact trivial
    | (refine Br.mk (fun hb => ?_) (fun hb => ?_) <;> (first | (exfalso; revert hb; decide) | ((try simp only [BL] at hb) <;> (try simp only [DL] at hb) <;> conv => whnf)))
    | (refine And.intro ?_ ?_; (focus (first | exact id | exact rfl | exact trivial | (intro hg; first | exact hg | exact rfl | (simp; done) | (simp at hg ⊢; assumption)) | omega | decide | exact is2_c _ _ _ | exact is1_c _ _ | exact isS_c _ _ | exact isB_c _ _ | exact Nat.le_refl _ | assumption | exact mulLe (by decide) (by omega) | exact mulLe2 (by decide) (by omega) (by omega) | (intros; simp only [BL] at *; omega) | (intros; (try simp only [BL] at *); (try simp only [DL] at *); omega) | (intros; simp only [BL] at *; rw [wr_id (by omega) (by omega)]; omega) | (intros; simp_all; done))); conv => whnf)
    | (refine Or.inr (And.intro rfl ?_); first | (refine congrArg intV ?_) | (refine congrArg boolV ?_) | (refine tupII ?_ ?_) | (refine tupIII ?_ ?_ ?_) | (refine tupU ?_ ?_ ?_ ?_ ?_) | exact rfl))
  refine And.intro ⟨⟨fun k hk j hj => ?_, by decide, fun k hk => ?_⟩, fun k hk j hj => ?_, by decide⟩ ?_
  · match k, j, hk, hj with
    | 0, 0, _, _ => exact LLe.of_eq rfl
    | 0, 1, _, _ => exact LLe.of_eq rfl
    | 0, 2, _, _ => exact LLe.of_eq rfl
  · match k, hk with
    | 0, _ => exact ⟨by decide, by decide⟩
  · match k, j, hk, hj with
    | 0, 0, _, _ => rfl
  conv => whnf
  repeat' (first
    | (refine NilG.mk fun bn hbn => ?_; conv => whnf)
    | (refine Both.mk ?_ ?_ <;> conv => whnf)
    | exact trivial
    | (refine Br.mk (fun hb => ?_) (fun hb => ?_) <;> (first | (exfalso; revert hb; decide) | ((try simp only [BL] at hb) <;> (try simp only [DL] at hb) <;> conv => whnf)))
    | (refine And.intro ?_ ?_; (focus (first | exact id | exact rfl | exact trivial | (intro hg; first | exact hg | exact rfl | (simp; done) | (simp at hg ⊢; assumption)) | omega | decide | exact is2_c _ _ _ | exact is1_c _ _ | exact isS_c _ _ | exact isB_c _ _ | exact Nat.le_refl _ | assumption | exact mulLe (by decide) (by omega) | exact mulLe2 (by decide) (by omega) (by omega) | (intros; simp only [BL] at *; omega) | (intros; (try simp only [BL] at *); (try simp only [DL] at *); omega) | (intros; simp only [BL] at *; rw [wr_id (by omega) (by omega)]; omega) | (intros; simp_all; done) | first | exact ⟨isRu_c hB hk, is1_c _ _, hnx⟩ | exact isRu_c hB hk)); conv => whnf)
    | (refine Or.inr (And.intro rfl ?_); first | (refine congrArg intV ?_) | (refine congrArg boolV ?_) | (refine tupII ?_ ?_) | (refine tupIII ?_ ?_ ?_) | (refine tupU ?_ ?_ ?_ ?_ ?_) | exact rfl))
  · simp at hb
  rotate_left
  · exfalso
    rename_i h0
    have h0' : ¬ unE n s m p q g = 0 := h0
    exact hb (if_neg h0')
  · rename_i h0
    have h0' : ¬ unE n s m p q g = 0 := h0
    obtain ⟨e0, hr, hE, hE1⟩ : ∃ e0, unE n s m p q g = e0 ∧ heE n nx s m p q g x = eB m p x e0 n ∧ (e0 = 0 → unE n s m p q g = 0 ∧ nx = n) := ⟨_, rfl, (if_pos h0').trans (eB_keep (i := 0) h0' n (Nat.zero_le n)).symm, fun h => absurd h h0'⟩
    clear hb
    refine sem_loop tab_ok gamR4_ok mixed (by kernel_rfl) (O := lex) (fun j : Nat => ⟨[(0, .c (.sl 3 n (cRu s m p q g))), (1, .c (.sl 1 nx (c1 x))), (9, intV (if heE n nx s m p q g x = 0 then S (hK m p g x) n else 0)), (10, intV (heE n nx s m p q g x)), (11, intV (if heE n nx s m p q g x = 0 then mxV (lkW m p g x n) n else 0)), (12, intV (if heE n nx s m p q g x = 0 then mxI (lkW m p g x n) n else 0)), (13, intV (heE n nx s m p q g x)), (14, intV (eB m p x e0 j)), (18, intV j)], []⟩) (fun j => j ≤ n) (fun j => n - j) ⟨0, [], Nat.zero_le _, ?_⟩ fun j hj => ?_
    · refine Sub.of ?_ ?_ ?_
      repeat' (first | (refine And.intro ?_ ?_) | exact trivial | (exact congrArg intV (by assumption)) | (refine congrArg intV ((wr_id (by omega) (by omega)).trans (by omega))) | exact rfl | (simp only [Int.toNat_natCast, Int.toNat_zero, Nat.sub_zero, Nat.zero_add]; first | exact rfl | done) | exact all0 | exact fun h => Bool.noConfusion h | exact fun _ _ _ _ => rfl | omega)
    have hz : eB m p x e0 j = 0 → unE n s m p q g = 0 ∧ nx = n := fun h => hE1 (by
      by_cases h' : e0 = 0
      · exact h'
      · exact absurd (h.symm.trans (eB_keep (i := 0) h' j (Nat.zero_le j))).symm h')
    have hnj : eB m p x e0 j = 0 → eB m p x e0 (j + 1) = pwE m p x j := fun h => if_neg (fun hh => hh h)
    conv => whnf
    repeat' (first
      | (refine NilG.mk fun bn hbn => ?_; conv => whnf)
      | (refine Both.mk ?_ ?_ <;> conv => whnf)
      | exact trivial
      | (refine Br.mk (fun hb => ?_) (fun hb => ?_) <;> (first | (exfalso; revert hb; decide) | ((try simp only [BL] at hb) <;> (try simp only [DL] at hb) <;> conv => whnf)))
      | (refine And.intro ?_ ?_; (focus (first | exact id | exact rfl | exact trivial | (intro hg; first | exact hg | exact rfl | (simp; done) | (simp at hg ⊢; assumption)) | omega | decide | exact is2_c _ _ _ | exact is1_c _ _ | exact isS_c _ _ | exact isB_c _ _ | exact Nat.le_refl _ | assumption | exact mulLe (by decide) (by omega) | exact mulLe2 (by decide) (by omega) (by omega) | (intros; simp only [BL] at *; omega) | (intros; (try simp only [BL] at *); (try simp only [DL] at *); omega) | (intros; simp only [BL] at *; rw [wr_id (by omega) (by omega)]; omega) | (intros; simp_all; done) | exact ⟨is2_c _ _ _, ((unE_zero (hz (by omega)).1).2 j (by omega)).1⟩)); conv => whnf)
      | (refine Or.inr (And.intro rfl ?_); first | (refine congrArg intV ?_) | (refine congrArg boolV ?_) | (refine tupII ?_ ?_) | (refine tupIII ?_ ?_ ?_) | (refine tupU ?_ ?_ ?_ ?_ ?_) | exact rfl))
    · have h4 : pwE m p x j = 4 := by unfold pwE; rw [if_pos (by omega)]
      have e4 : (4 : Int) = eB m p x e0 (j + 1) := by rw [hnj (by omega), h4]
      refine ⟨j + 1, [], by omega, by omega, ?_⟩
      refine Sub.of ?_ ?_ ?_
      repeat' (first | (refine And.intro ?_ ?_) | exact trivial | (exact congrArg intV (by assumption)) | (refine congrArg intV ((wr_id (by omega) (by omega)).trans (by omega))) | exact rfl | (simp only [Int.toNat_natCast, Int.toNat_zero, Nat.sub_zero, Nat.zero_add]; first | exact rfl | done) | exact all0 | exact fun h => Bool.noConfusion h | exact fun _ _ _ _ => rfl | omega)
    · have h4 : pwE m p x j = 0 := by unfold pwE; rw [if_neg (by omega)]
      have e4 : eB m p x e0 j = eB m p x e0 (j + 1) := by rw [hnj (by omega), h4]; omega
      refine ⟨j + 1, [], by omega, by omega, ?_⟩
      refine Sub.of ?_ ?_ ?_
      repeat' (first | (refine And.intro ?_ ?_) | exact trivial | (exact congrArg intV (by assumption)) | (refine congrArg intV ((wr_id (by omega) (by omega)).trans (by omega))) | exact rfl | (simp only [Int.toNat_natCast, Int.toNat_zero, Nat.sub_zero, Nat.zero_add]; first | exact rfl | done) | exact all0 | exact fun h => Bool.noConfusion h | exact fun _ _ _ _ => rfl | omega)
    · have hH : heE n nx s m p q g x = eB m p x e0 j := hE.trans (eB_keep hb n hj)
      have hne : ¬ heE n nx s m p q g x = 0 := by rw [hH]; exact hb
      rw [if_neg hne, if_neg hne, if_neg hne, hH]
      simp
    exact absurd (hz hb).1 h0'
  have h0 : unE n s m p q g = 0 := hb
  obtain ⟨hn10, hall⟩ := unE_zero h0
  clear hb
  have e7 : (if unE n s m p q g = 0 then S (hK m p g z0) n else 0) = S (hK m p g z0) n := if_pos h0
  refine sem_loop tab_ok gamR4_ok mixed (by kernel_rfl) (O := lex) (fun i : Nat => ⟨[(74, intV i), (73, intV n), (72, .c (.sl 3 n (cRu s m p q g))), (0, .c (.sl 3 n (cRu s m p q g))), (1, .c (.sl 1 nx (c1 x))), (7, intV (S (hK m p g z0) n)), (9, intV (if heE n nx s m p q g x = 0 then S (hK m p g x) n else 0)), (10, intV (heE n nx s m p q g x)), (11, intV (if heE n nx s m p q g x = 0 then mxV (lkW m p g x n) n else 0)), (12, intV (if heE n nx s m p q g x = 0 then mxI (lkW m p g x n) n else 0)), (13, intV (heE n nx s m p q g x)), (14, intV 0), (15, intV (S (hK m p g z0) i))], []⟩) (fun i => i ≤ n) (fun i => n - i) ⟨0, [], Nat.zero_le _, ?_⟩ fun i hi => ?_
  · refine Sub.of ?_ ?_ ?_
    repeat' (first | (refine And.intro ?_ ?_) | exact trivial | (exact congrArg intV (by assumption)) | (refine congrArg intV ((wr_id (by omega) (by omega)).trans (by omega))) | exact rfl | (simp only [Int.toNat_natCast, Int.toNat_zero, Nat.sub_zero, Nat.zero_add]; first | exact rfl | done) | exact all0 | exact fun h => Bool.noConfusion h | exact fun _ _ _ _ => rfl | omega)
  have hs := hsum (x := z0) h0 hi (fun j hj => ⟨Int.le_refl _, (hall j (by omega)).2.1⟩)
  conv => whnf
  repeat' (first
    | (refine NilG.mk fun bn hbn => ?_; conv => whnf)
    | (refine Both.mk ?_ ?_ <;> conv => whnf)
    | exact trivial
    | (refine Br.mk (fun hb => ?_) (fun hb => ?_) <;> (first | (exfalso; revert hb; decide) | ((try simp only [BL] at hb) <;> (try simp only [DL] at hb) <;> conv => whnf)))
    | (refine And.intro ?_ ?_; (focus (first | exact id | exact rfl | exact trivial | (intro hg; first | exact hg | exact rfl | (simp; done) | (simp at hg ⊢; assumption)) | omega | decide | exact is2_c _ _ _ | exact is1_c _ _ | exact isS_c _ _ | exact isB_c _ _ | exact Nat.le_refl _ | assumption | exact mulLe (by decide) (by omega) | exact mulLe2 (by decide) (by omega) (by omega) | (intros; simp only [BL] at *; omega) | (intros; (try simp only [BL] at *); (try simp only [DL] at *); omega) | (intros; simp only [BL] at *; rw [wr_id (by omega) (by omega)]; omega) | (intros; simp_all; done) | exact ⟨is2_c _ _ _, (hall i (by omega)).1⟩)); conv => whnf)
    | (refine Or.inr (And.intro rfl ?_); first | (refine congrArg intV ?_) | (refine congrArg boolV ?_) | (refine tupII ?_ ?_) | (refine tupIII ?_ ?_ ?_) | (refine tupU ?_ ?_ ?_ ?_ ?_) | exact rfl))
  · have hs' := hsum (x := z0) (i := i + 1) h0 (by omega) (fun j hj => ⟨Int.le_refl _, (hall j (by omega)).2.1⟩)
    have e1 : IntKind.i64.wrap (S (hK m p g z0) i + min (g i) (S (p i) (m i))) = S (hK m p g z0) (i + 1) := by
      have hz : S (hK m p g z0) (i + 1) = S (hK m p g z0) i + min (g i) (S (p i) (m i) - 0) := rfl
      rw [Int.sub_zero] at hz
      rw [← hz]
      exact wr_id (by omega) (by omega)
    refine ⟨i + 1, [], by omega, by omega, ?_⟩
    refine Sub.of ?_ ?_ ?_
    repeat' (first | (refine And.intro ?_ ?_) | exact trivial | (exact congrArg intV (by assumption)) | (refine congrArg intV ((wr_id (by omega) (by omega)).trans (by omega))) | exact rfl | (simp only [Int.toNat_natCast, Int.toNat_zero, Nat.sub_zero, Nat.zero_add]; first | exact rfl | done) | exact all0 | exact fun h => Bool.noConfusion h | exact fun _ _ _ _ => rfl | omega)
  · obtain rfl : i = n := by omega
    exact absurd rfl hb
  · rename_i hne _
    obtain ⟨e0, hr, hE, hE1⟩ : ∃ e0, (3 : Int) = e0 ∧ heE n nx s m p q g x = eB m p x e0 n ∧ (e0 = 0 → unE n s m p q g = 0 ∧ nx = n) := ⟨3, rfl, ((if_neg fun h => h h0).trans (if_pos (by omega))).trans (eB_keep (i := 0) (by show (3 : Int) ≠ 0; decide) n (Nat.zero_le n)).symm, fun h => absurd h (by decide)⟩
    clear hb
    refine sem_loop tab_ok gamR4_ok mixed (by kernel_rfl) (O := lex) (fun j : Nat => ⟨[(0, .c (.sl 3 n (cRu s m p q g))), (1, .c (.sl 1 nx (c1 x))), (9, intV (if heE n nx s m p q g x = 0 then S (hK m p g x) n else 0)), (10, intV (heE n nx s m p q g x)), (11, intV (if heE n nx s m p q g x = 0 then mxV (lkW m p g x n) n else 0)), (12, intV (if heE n nx s m p q g x = 0 then mxI (lkW m p g x n) n else 0)), (13, intV (heE n nx s m p q g x)), (14, intV (eB m p x e0 j)), (18, intV j)], []⟩) (fun j => j ≤ n) (fun j => n - j) ⟨0, [], Nat.zero_le _, ?_⟩ fun j hj => ?_
    · refine Sub.of ?_ ?_ ?_
      repeat' (first | (refine And.intro ?_ ?_) | exact trivial | (exact congrArg intV (by assumption)) | (refine congrArg intV ((wr_id (by omega) (by omega)).trans (by omega))) | exact rfl | (simp only [Int.toNat_natCast, Int.toNat_zero, Nat.sub_zero, Nat.zero_add]; first | exact rfl | done) | exact all0 | exact fun h => Bool.noConfusion h | exact fun _ _ _ _ => rfl | omega)
    have hz : eB m p x e0 j = 0 → unE n s m p q g = 0 ∧ nx = n := fun h => hE1 (by
      by_cases h' : e0 = 0
      · exact h'
      · exact absurd (h.symm.trans (eB_keep (i := 0) h' j (Nat.zero_le j))).symm h')
    have hnj : eB m p x e0 j = 0 → eB m p x e0 (j + 1) = pwE m p x j := fun h => if_neg (fun hh => hh h)
    conv => whnf
    repeat' (first
      | (refine NilG.mk fun bn hbn => ?_; conv => whnf)
      | (refine Both.mk ?_ ?_ <;> conv => whnf)
      | exact trivial
      | (refine Br.mk (fun hb => ?_) (fun hb => ?_) <;> (first | (exfalso; revert hb; decide) | ((try simp only [BL] at hb) <;> (try simp only [DL] at hb) <;> conv => whnf)))
      | (refine And.intro ?_ ?_; (focus (first | exact id | exact rfl | exact trivial | (intro hg; first | exact hg | exact rfl | (simp; done) | (simp at hg ⊢; assumption)) | omega | decide | exact is2_c _ _ _ | exact is1_c _ _ | exact isS_c _ _ | exact isB_c _ _ | exact Nat.le_refl _ | assumption | exact mulLe (by decide) (by omega) | exact mulLe2 (by decide) (by omega) (by omega) | (intros; simp only [BL] at *; omega) | (intros; (try simp only [BL] at *); (try simp only [DL] at *); omega) | (intros; simp only [BL] at *; rw [wr_id (by omega) (by omega)]; omega) | (intros; simp_all; done) | exact ⟨is2_c _ _ _, ((unE_zero (hz (by omega)).1).2 j (by omega)).1⟩)); conv => whnf)
      | (refine Or.inr (And.intro rfl ?_); first | (refine congrArg intV ?_) | (refine congrArg boolV ?_) | (refine tupII ?_ ?_) | (refine tupIII ?_ ?_ ?_) | (refine tupU ?_ ?_ ?_ ?_ ?_) | exact rfl))
    · have h4 : pwE m p x j = 4 := by unfold pwE; rw [if_pos (by omega)]
      have e4 : (4 : Int) = eB m p x e0 (j + 1) := by rw [hnj (by omega), h4]
      refine ⟨j + 1, [], by omega, by omega, ?_⟩
      refine Sub.of ?_ ?_ ?_
      repeat' (first | (refine And.intro ?_ ?_) | exact trivial | (exact congrArg intV (by assumption)) | (refine congrArg intV ((wr_id (by omega) (by omega)).trans (by omega))) | exact rfl | (simp only [Int.toNat_natCast, Int.toNat_zero, Nat.sub_zero, Nat.zero_add]; first | exact rfl | done) | exact all0 | exact fun h => Bool.noConfusion h | exact fun _ _ _ _ => rfl | omega)
    · have h4 : pwE m p x j = 0 := by unfold pwE; rw [if_neg (by omega)]
      have e4 : eB m p x e0 j = eB m p x e0 (j + 1) := by rw [hnj (by omega), h4]; omega
      refine ⟨j + 1, [], by omega, by omega, ?_⟩
      refine Sub.of ?_ ?_ ?_
      repeat' (first | (refine And.intro ?_ ?_) | exact trivial | (exact congrArg intV (by assumption)) | (refine congrArg intV ((wr_id (by omega) (by omega)).trans (by omega))) | exact rfl | (simp only [Int.toNat_natCast, Int.toNat_zero, Nat.sub_zero, Nat.zero_add]; first | exact rfl | done) | exact all0 | exact fun h => Bool.noConfusion h | exact fun _ _ _ _ => rfl | omega)
    · have hH : heE n nx s m p q g x = eB m p x e0 j := hE.trans (eB_keep hb n hj)
      have hne : ¬ heE n nx s m p q g x = 0 := by rw [hH]; exact hb
      rw [if_neg hne, if_neg hne, if_neg hne, hH]
      simp
    exact absurd (hz hb).2 (by omega)
  · obtain rfl : i = n := by omega
    exact absurd rfl hb
  · rename_i hne _
    obtain ⟨e0, hr, hE, hE1⟩ : ∃ e0, (0 : Int) = e0 ∧ heE n nx s m p q g x = eB m p x e0 n ∧ (e0 = 0 → unE n s m p q g = 0 ∧ nx = n) := ⟨0, rfl, ((if_neg fun h => h h0).trans (if_neg (by omega))).trans (eB_zero n).symm, fun _ => ⟨h0, by omega⟩⟩
    clear hb
    refine sem_loop tab_ok gamR4_ok mixed (by kernel_rfl) (O := lex) (fun j : Nat => ⟨[(0, .c (.sl 3 n (cRu s m p q g))), (1, .c (.sl 1 nx (c1 x))), (9, intV (if heE n nx s m p q g x = 0 then S (hK m p g x) n else 0)), (10, intV (heE n nx s m p q g x)), (11, intV (if heE n nx s m p q g x = 0 then mxV (lkW m p g x n) n else 0)), (12, intV (if heE n nx s m p q g x = 0 then mxI (lkW m p g x n) n else 0)), (13, intV (heE n nx s m p q g x)), (14, intV (eB m p x e0 j)), (18, intV j)], []⟩) (fun j => j ≤ n) (fun j => n - j) ⟨0, [], Nat.zero_le _, ?_⟩ fun j hj => ?_
    · refine Sub.of ?_ ?_ ?_
      repeat' (first | (refine And.intro ?_ ?_) | exact trivial | (exact congrArg intV (by assumption)) | (refine congrArg intV ((wr_id (by omega) (by omega)).trans (by omega))) | exact rfl | (simp only [Int.toNat_natCast, Int.toNat_zero, Nat.sub_zero, Nat.zero_add]; first | exact rfl | done) | exact all0 | exact fun h => Bool.noConfusion h | exact fun _ _ _ _ => rfl | omega)
    have hz : eB m p x e0 j = 0 → unE n s m p q g = 0 ∧ nx = n := fun h => hE1 (by
      by_cases h' : e0 = 0
      · exact h'
      · exact absurd (h.symm.trans (eB_keep (i := 0) h' j (Nat.zero_le j))).symm h')
    have hnj : eB m p x e0 j = 0 → eB m p x e0 (j + 1) = pwE m p x j := fun h => if_neg (fun hh => hh h)
    conv => whnf
    repeat' (first
      | (refine NilG.mk fun bn hbn => ?_; conv => whnf)
      | (refine Both.mk ?_ ?_ <;> conv => whnf)
      | exact trivial
      | (refine Br.mk (fun hb => ?_) (fun hb => ?_) <;> (first | (exfalso; revert hb; decide) | ((try simp only [BL] at hb) <;> (try simp only [DL] at hb) <;> conv => whnf)))
      | (refine And.intro ?_ ?_; (focus (first | exact id | exact rfl | exact trivial | (intro hg; first | exact hg | exact rfl | (simp; done) | (simp at hg ⊢; assumption)) | omega | decide | exact is2_c _ _ _ | exact is1_c _ _ | exact isS_c _ _ | exact isB_c _ _ | exact Nat.le_refl _ | assumption | exact mulLe (by decide) (by omega) | exact mulLe2 (by decide) (by omega) (by omega) | (intros; simp only [BL] at *; omega) | (intros; (try simp only [BL] at *); (try simp only [DL] at *); omega) | (intros; simp only [BL] at *; rw [wr_id (by omega) (by omega)]; omega) | (intros; simp_all; done) | exact ⟨is2_c _ _ _, ((unE_zero (hz (by omega)).1).2 j (by omega)).1⟩)); conv => whnf)
      | (refine Or.inr (And.intro rfl ?_); first | (refine congrArg intV ?_) | (refine congrArg boolV ?_) | (refine tupII ?_ ?_) | (refine tupIII ?_ ?_ ?_) | (refine tupU ?_ ?_ ?_ ?_ ?_) | exact rfl))
    · have h4 : pwE m p x j = 4 := by unfold pwE; rw [if_pos (by omega)]
      have e4 : (4 : Int) = eB m p x e0 (j + 1) := by rw [hnj (by omega), h4]
      refine ⟨j + 1, [], by omega, by omega, ?_⟩
      refine Sub.of ?_ ?_ ?_
      repeat' (first | (refine And.intro ?_ ?_) | exact trivial | (exact congrArg intV (by assumption)) | (refine congrArg intV ((wr_id (by omega) (by omega)).trans (by omega))) | exact rfl | (simp only [Int.toNat_natCast, Int.toNat_zero, Nat.sub_zero, Nat.zero_add]; first | exact rfl | done) | exact all0 | exact fun h => Bool.noConfusion h | exact fun _ _ _ _ => rfl | omega)
    · have h4 : pwE m p x j = 0 := by unfold pwE; rw [if_neg (by omega)]
      have e4 : eB m p x e0 j = eB m p x e0 (j + 1) := by rw [hnj (by omega), h4]; omega
      refine ⟨j + 1, [], by omega, by omega, ?_⟩
      refine Sub.of ?_ ?_ ?_
      repeat' (first | (refine And.intro ?_ ?_) | exact trivial | (exact congrArg intV (by assumption)) | (refine congrArg intV ((wr_id (by omega) (by omega)).trans (by omega))) | exact rfl | (simp only [Int.toNat_natCast, Int.toNat_zero, Nat.sub_zero, Nat.zero_add]; first | exact rfl | done) | exact all0 | exact fun h => Bool.noConfusion h | exact fun _ _ _ _ => rfl | omega)
    · have hH : heE n nx s m p q g x = eB m p x e0 j := hE.trans (eB_keep hb n hj)
      have hne : ¬ heE n nx s m p q g x = 0 := by rw [hH]; exact hb
      rw [if_neg hne, if_neg hne, if_neg hne, hH]
      simp
    have hH : heE n nx s m p q g x = 0 := by
      have : j = n := by omega
      rw [hE, ← this]
      exact hb
    obtain ⟨h1, hnn, hx⟩ := heE_zero hH
    obtain ⟨hn10', hall'⟩ := unE_zero h1
    clear hb
    have e9 : (if heE n nx s m p q g x = 0 then S (hK m p g x) n else 0) = S (hK m p g x) n := if_pos hH
    have e11 : (if heE n nx s m p q g x = 0 then mxV (lkW m p g x n) n else 0) = mxV (lkW m p g x n) n := if_pos hH
    have e12 : (if heE n nx s m p q g x = 0 then mxI (lkW m p g x n) n else 0) = mxI (lkW m p g x n) n := if_pos hH
    refine sem_loop tab_ok gamR4_ok mixed (by kernel_rfl) (O := lex) (fun i : Nat => ⟨[(141, intV i), (140, intV n), (139, .c (.sl 3 n (cRu s m p q g))), (0, .c (.sl 3 n (cRu s m p q g))), (1, .c (.sl 1 nx (c1 x))), (9, intV (S (hK m p g x) n)), (10, intV 0), (11, intV (mxV (lkW m p g x n) n)), (12, intV (mxI (lkW m p g x n) n)), (13, intV 0), (19, intV (S (hK m p g x) i)), (20, intV (mxV (lkW m p g x n) i)), (21, intV (mxI (lkW m p g x n) i))], []⟩) (fun i => i ≤ n) (fun i => n - i) ⟨0, [], Nat.zero_le _, ?_⟩ fun i hi2 => ?_
    · refine Sub.of ?_ ?_ ?_
      repeat' (first | (refine And.intro ?_ ?_) | exact trivial | (exact congrArg intV (by assumption)) | (refine congrArg intV ((wr_id (by omega) (by omega)).trans (by omega))) | exact rfl | (simp only [Int.toNat_natCast, Int.toNat_zero, Nat.sub_zero, Nat.zero_add]; first | exact rfl | done) | exact all0 | exact fun h => Bool.noConfusion h | exact fun _ _ _ _ => rfl | omega)
    have hsi := hsum (x := x) h1 hi2 (fun k hk => hx k (by omega))
    conv => whnf
    repeat' (first
      | (refine NilG.mk fun bn hbn => ?_; conv => whnf)
      | (refine Both.mk ?_ ?_ <;> conv => whnf)
      | exact trivial
      | (refine Br.mk (fun hb => ?_) (fun hb => ?_) <;> (first | (exfalso; revert hb; decide) | ((try simp only [BL] at hb) <;> (try simp only [DL] at hb) <;> conv => whnf)))
      | (refine And.intro ?_ ?_; (focus (first | exact id | exact rfl | exact trivial | (intro hg; first | exact hg | exact rfl | (simp; done) | (simp at hg ⊢; assumption)) | omega | decide | exact is2_c _ _ _ | exact is1_c _ _ | exact isS_c _ _ | exact isB_c _ _ | exact Nat.le_refl _ | assumption | exact mulLe (by decide) (by omega) | exact mulLe2 (by decide) (by omega) (by omega) | (intros; simp only [BL] at *; omega) | (intros; (try simp only [BL] at *); (try simp only [DL] at *); omega) | (intros; simp only [BL] at *; rw [wr_id (by omega) (by omega)]; omega) | (intros; simp_all; done) | exact ⟨is2_c _ _ _, (hall' i (by omega)).1⟩)); conv => whnf)
      | (refine Or.inr (And.intro rfl ?_); first | (refine congrArg intV ?_) | (refine congrArg boolV ?_) | (refine tupII ?_ ?_) | (refine tupIII ?_ ?_ ?_) | (refine tupU ?_ ?_ ?_ ?_ ?_) | exact rfl))
    · have hsi' := hsum (x := x) (i := i + 1) h1 (by omega) (fun k hk => hx k (by omega))
      have hsn := hsum (x := x) h1 (Nat.le_refl n) hx
      have hxi := hx i (by omega)
      have hai := hall' i (by omega)
      have hhi : hK m p g x i = min (g i) (S (p i) (m i) - x i) := rfl
      have e19 : IntKind.i64.wrap (S (hK m p g x) i + min (g i) (IntKind.i64.wrap (S (p i) (m i) - x i))) = S (hK m p g x) (i + 1) := by
        rw [wr_id (x := S (p i) (m i) - x i) (by omega) (by omega)]
        exact wr_id (by simp only [S] at hsi'; omega) (by simp only [S] at hsi'; omega)
      have e24 : (0 : Int) = oth (hK m p g x) i 0 := by simp [oth, S]
      have hin : i < n := by omega
      clear hb
      refine sem_loop tab_ok gamR4_ok mixed (by kernel_rfl) (O := lex) (fun k : Nat => ⟨[(161, intV k), (160, intV n), (159, .c (.sl 3 n (cRu s m p q g))), (141, intV i), (140, intV n), (139, .c (.sl 3 n (cRu s m p q g))), (0, .c (.sl 3 n (cRu s m p q g))), (1, .c (.sl 1 nx (c1 x))), (9, intV (S (hK m p g x) n)), (10, intV 0), (11, intV (mxV (lkW m p g x n) n)), (12, intV (mxI (lkW m p g x n) n)), (13, intV 0), (19, intV (S (hK m p g x) (i + 1))), (20, intV (mxV (lkW m p g x n) i)), (21, intV (mxI (lkW m p g x n) i)), (22, intV i), (24, intV (oth (hK m p g x) i k))], []⟩) (fun k => k ≤ n) (fun k => n - k) ⟨0, [], Nat.zero_le _, ?_⟩ fun k hk2 => ?_
      · refine Sub.of ?_ ?_ ?_
        repeat' (first | (refine And.intro ?_ ?_) | exact trivial | (exact congrArg intV (by assumption)) | (refine congrArg intV ((wr_id (by omega) (by omega)).trans (by omega))) | exact rfl | (simp only [Int.toNat_natCast, Int.toNat_zero, Nat.sub_zero, Nat.zero_add]; first | exact rfl | done) | exact all0 | exact fun h => Bool.noConfusion h | exact fun _ _ _ _ => rfl | omega)
      have hsk := hsum (x := x) h1 hk2 (fun k hk => hx k (by omega))
      have hok : oth (hK m p g x) i k = S (hK m p g x) k - (if i < k then hK m p g x i else 0) := rfl
      conv => whnf
      repeat' (first
        | (refine NilG.mk fun bn hbn => ?_; conv => whnf)
        | (refine Both.mk ?_ ?_ <;> conv => whnf)
        | exact trivial
        | (refine Br.mk (fun hb => ?_) (fun hb => ?_) <;> (first | (exfalso; revert hb; decide) | ((try simp only [BL] at hb) <;> (try simp only [DL] at hb) <;> conv => whnf)))
        | (refine And.intro ?_ ?_; (focus (first | exact id | exact rfl | exact trivial | (intro hg; first | exact hg | exact rfl | (simp; done) | (simp at hg ⊢; assumption)) | omega | decide | exact is2_c _ _ _ | exact is1_c _ _ | exact isS_c _ _ | exact isB_c _ _ | exact Nat.le_refl _ | assumption | exact mulLe (by decide) (by omega) | exact mulLe2 (by decide) (by omega) (by omega) | (intros; simp only [BL] at *; omega) | (intros; (try simp only [BL] at *); (try simp only [DL] at *); omega) | (intros; simp only [BL] at *; rw [wr_id (by omega) (by omega)]; omega) | (intros; simp_all; done) | exact ⟨is2_c _ _ _, (hall' k (by omega)).1⟩)); conv => whnf)
        | (refine Or.inr (And.intro rfl ?_); first | (refine congrArg intV ?_) | (refine congrArg boolV ?_) | (refine tupII ?_ ?_) | (refine tupIII ?_ ?_ ?_) | (refine tupU ?_ ?_ ?_ ?_ ?_) | exact rfl))
      · have hsk' := hsum (x := x) (i := k + 1) h1 (by omega) (fun k hk => hx k (by omega))
        have hxk := hx k (by omega)
        have hak := hall' k (by omega)
        have hhk : hK m p g x k = min (g k) (S (p k) (m k) - x k) := rfl
        have hnx2 := oth_next (h := hK m p g x) (i := i) (k := k) (by omega)
        have hbd : -100000 ≤ oth (hK m p g x) i k ∧ oth (hK m p g x) i k ≤ 1000000 := by
          rw [hok]
          split <;> omega
        have e24' : IntKind.i64.wrap (oth (hK m p g x) i k + min (g k) (IntKind.i64.wrap (S (p k) (m k) - x k))) = oth (hK m p g x) i (k + 1) := by
          rw [wr_id (x := S (p k) (m k) - x k) (by omega) (by omega), ← hhk, hnx2]
          exact wr_id (by omega) (by omega)
        refine ⟨k + 1, [], by omega, by omega, ?_⟩
        refine Sub.of ?_ ?_ ?_
        repeat' (first | (refine And.intro ?_ ?_) | exact trivial | (exact congrArg intV (by assumption)) | (refine congrArg intV ((wr_id (by omega) (by omega)).trans (by omega))) | exact rfl | (simp only [Int.toNat_natCast, Int.toNat_zero, Nat.sub_zero, Nat.zero_add]; first | exact rfl | done) | exact all0 | exact fun h => Bool.noConfusion h | exact fun _ _ _ _ => rfl | omega)
      · have hki : k = i := by omega
        have e24' : oth (hK m p g x) i k = oth (hK m p g x) i (k + 1) := by rw [hki]; exact oth_same.symm
        refine ⟨k + 1, [], by omega, by omega, ?_⟩
        refine Sub.of ?_ ?_ ?_
        repeat' (first | (refine And.intro ?_ ?_) | exact trivial | (exact congrArg intV (by assumption)) | (refine congrArg intV ((wr_id (by omega) (by omega)).trans (by omega))) | exact rfl | (simp only [Int.toNat_natCast, Int.toNat_zero, Nat.sub_zero, Nat.zero_add]; first | exact rfl | done) | exact all0 | exact fun h => Bool.noConfusion h | exact fun _ _ _ _ => rfl | omega)
      · have hkn : k = n := by omega
        have hW : IntKind.i64.wrap (x i - oth (hK m p g x) i k) = lkW m p g x n i := by
          rw [hok, if_pos (by omega), hkn]
          exact wr_id (by omega) (by omega)
        have h2 : lkW m p g x n i > mxV (lkW m p g x n) i := by rw [← hW]; exact hb
        have e20 : IntKind.i64.wrap (x i - oth (hK m p g x) i k) = mxV (lkW m p g x n) (i + 1) := hW.trans (if_pos h2).symm
        have e21 : (i : Int) = mxI (lkW m p g x n) (i + 1) := (if_pos h2).symm
        refine ⟨i + 1, [], by omega, by omega, ?_⟩
        refine Sub.of ?_ ?_ ?_
        repeat' (first | (refine And.intro ?_ ?_) | exact trivial | (exact congrArg intV (by assumption)) | (refine congrArg intV ((wr_id (by omega) (by omega)).trans (by omega))) | exact rfl | (simp only [Int.toNat_natCast, Int.toNat_zero, Nat.sub_zero, Nat.zero_add]; first | exact rfl | done) | exact all0 | exact fun h => Bool.noConfusion h | exact fun _ _ _ _ => rfl | omega)
      · have hkn : k = n := by omega
        have hW : IntKind.i64.wrap (x i - oth (hK m p g x) i k) = lkW m p g x n i := by
          rw [hok, if_pos (by omega), hkn]
          exact wr_id (by omega) (by omega)
        have h2 : ¬ lkW m p g x n i > mxV (lkW m p g x n) i := by rw [← hW]; exact hb
        have e20 : mxV (lkW m p g x n) i = mxV (lkW m p g x n) (i + 1) := (if_neg h2).symm
        have e21 : mxI (lkW m p g x n) i = mxI (lkW m p g x n) (i + 1) := (if_neg h2).symm
        refine ⟨i + 1, [], by omega, by omega, ?_⟩
        refine Sub.of ?_ ?_ ?_
        repeat' (first | (refine And.intro ?_ ?_) | exact trivial | (exact congrArg intV (by assumption)) | (refine congrArg intV ((wr_id (by omega) (by omega)).trans (by omega))) | exact rfl | (simp only [Int.toNat_natCast, Int.toNat_zero, Nat.sub_zero, Nat.zero_add]; first | exact rfl | done) | exact all0 | exact fun h => Bool.noConfusion h | exact fun _ _ _ _ => rfl | omega)
    · obtain rfl : i = n := by omega
      simp

def tyRu : Ty := .st (.cons tyOff (.cons (.i .i64) .nil))
theorem resB (x : Vals [.sl tyRu, .sl (.i .i64)]) (hz : Vals.szd Try.prog [.sl tyRu, .sl (.i .i64)] Try.f5.params.toList x) : x.1.1 * 40 ≤ 140737488355328 := by
  have h1 := hz.1 53 (by kernel_rfl)
  have e1 : Try.prog.bytesOf 53 = 48 := by kernel_rfl
  have e2 : reachBytes = 140737488351232 := by kernel_rfl
  rw [e1, e2] at h1
  omega

theorem reserveHolds_own : ownKnob Try.prog.godebug = none := by kernel_rfl
theorem reserveHolds_laid : laidOutB Try.prog = true := by kernel_rfl

set_option maxRecDepth 100000 in
theorem reserveHolds_lifted (os : Os) (started : os.Started) (H : Type) (enc : TypeId × Value → H) :
    ReturnsInHanded {} Try.checked os 5 .any (Rows.reserveHoldsSpec.pre6 enc Try.prog Try.f5 Rows.reserveHoldsRow.domain false) (Rows.reserveHoldsSpec.post enc Try.prog Try.f5 false true false false) := by
  refine returnsInHanded_of_change_sized (C := Try.checked) reserveHolds_own started (by kernel_rfl) Try.func5
    (ChangeSpec.witness6 (enc := enc) (C := Try.checked) false ⟨#[], #[.slice none 0 0, .slice none 0 0], []⟩ 8 (by kernel_rfl) (by kernel_rfl) (by kernel_rfl) (by kernel_rfl)) ?_
  intro W base args ds gs before hval0 hW hcnd hz _
  have hval : ∀ (j : Nat) t v, Try.f5.params[j]? = some t → args[j]? = some v → Value.okWide Try.prog W .any base t v := hval0
  have hW' : DataW.Whole enc Try.prog Try.f5.params.toList Rows.reserveHoldsSpec.vars false W args.toList ds gs before := hW
  exact law_postS (P := Try.prog) [.sl tyRu, .sl (.i .i64)] (by kernel_rfl) reserveHolds_laid (by kernel_rfl) rfl rfl (tb := 4) rfl (by kernel_rfl) (fun ds h => by
    match ds, h with
    | [d1, d2], _ => rfl) (fun x hx hz => resLaw (fun k => (x.1.2 k).1.1) (fun k => (x.1.2 k).1.2.1.1) (fun k i => ((x.1.2 k).1.2.1.2 i).1) (fun k i => ((x.1.2 k).1.2.1.2 i).2.1) (fun k => (x.1.2 k).2.1) x.1.1 x.2.1.1 x.2.1.2 (resB x hz) (fun k hk => ⟨(hx.1.2 k hk).1.1, (hx.1.2 k hk).1.2.1.1⟩) hx.2.1.1) W args ds gs before hval hW' hz

theorem reserveHolds_holds : Rows.ReserveHoldsSaid :=
  OpenClaim.holds_of_wide 5 Try.f5 rfl rfl rfl rfl rfl rfl rfl ⟨rfl, rfl, rfl, rfl, rfl⟩ rfl rfl rfl rfl rfl (by kernel_rfl) Try.func5 (by kernel_rfl)
    (of_decide_eq_true (by kernel_rfl)) (by unfold Func.isWrapper; rw [if_neg (by decide +kernel)]; exact ⟨rfl, rfl⟩)
    (fun os started H enc _ => reserveHolds_lifted os started H enc)
end Go.Proofs.Ytdakikgebfphmaa
