/-
  The law ReserveBest: the walk.
-/
import Derived.Test.YtdakikgebfphmaaRbM
import Derived.Test.YtdakikgebfphmaaVmS
namespace Go.Proofs.Ytdakikgebfphmaa
open Go.RowKit Go.ChangeShapes Go.WideShapes

def gamRb3 : Gam := fun f => match f with
  | 31 => some (sRul fun n s m p q g => intV (unE n s m p q g))
  | 22 => some (s3 inB)
  | 26 => some (sO (fun _ n p q => okOff n p q) fun _ n p _ => intV (S p n))
  | 27 => some (sOi (fun _ n p q x => okOff n p q ∧ 0 ≤ x ∧ x ≤ 2000000) fun _ n p q x => intV (S (ct p q x) n))
  | _ => none
theorem gamRb3_ok : GOk Try.prog gamRb3 := fun f g h => by
  unfold gamRb3 at h
  split at h
  · injection h with h; subst h; exact sRul_ok fun s m p q g n h1 h2 => unitsErr s m p q g n h1 h2
  · injection h with h; subst h; exact s3_ok in3
  · injection h with h; subst h; exact sO_ok offAll
  · injection h with h; subst h; exact sOi_ok offCost3
  · cases h
theorem rbCost (n : Nat) (s : Nat → ByteArray) (m : Nat → Nat) (p q : Nat → Nat → Int) (g : Nat → Int) (y : Nat → Int) (h0 : unE n s m p q g = 0) (hy : ∀ k, k < n → 0 ≤ y k ∧ y k ≤ S (p k) (m k)) :
    Fn1 Try.prog 57 [.c (.sl 1 n (c1 y)), .xp 1 fun j => ([.sl 3 n (cRu s m p q g)][0 + j]?).getD .un] (.tup [intV (S (rkC m p q y) n), intV (S (hK m p g y) n)]) := by
  refine fn_of_wpx (O := lex) tab_ok gamRb3_ok mixed Try.func57 (by kernel_rfl) rfl rfl rfl (by simp [Try.ntmps57]) (by kernel_rfl) ?_
  obtain ⟨hn10, hall⟩ := unE_zero h0
  conv => whnf
  repeat' (first
    | (refine NilG.mk fun bn hbn => ?_; conv => whnf)
    | (refine Both.mk ?_ ?_ <;> conv => whnf)
    | exact trivial
    | (refine Br.mk (fun hb => ?_) (fun hb => ?_) <;> (first | (exfalso; revert hb; decide) | ((try simp only [BL] at hb) <;> (try simp only [DL] at hb) <;> conv => whnf)))
    | (refine And.intro ?_ ?_; (focus (first | exact id | exact rfl | exact trivial | (intro hg; first | exact hg | exact rfl | (simp; done) | (simp at hg ⊢; assumption)) | omega | decide | exact is2_c _ _ _ | exact is1_c _ _ | exact isS_c _ _ | exact isB_c _ _ | exact Nat.le_refl _ | assumption | exact mulLe (by decide) (by omega) | exact mulLe2 (by decide) (by omega) (by omega) | (intros; simp only [BL] at *; omega) | (intros; (try simp only [BL] at *); (try simp only [DL] at *); omega) | (intros; simp only [BL] at *; rw [wr_id (by omega) (by omega)]; omega) | (intro h1 h2; exact Bool.and_eq_true_iff.2 ⟨h1, h2⟩) | (intros; simp_all; done))); conv => whnf)
    | (refine Or.inr (And.intro rfl ?_); first | (refine congrArg intV ?_) | (refine congrArg boolV ?_) | (refine tupII ?_ ?_) | (refine tupIII ?_ ?_ ?_) | (refine tupU ?_ ?_ ?_ ?_ ?_) | exact rfl))
  have hCb := fun z (hz : z ≤ n) => S_le (p := rkC m p q y) (a := -1200000000000) (b := 1200000000000) (k := z) fun j hj => C_le (hall j (by omega)).1 (y j) (Nat.le_refl _)
  have hHb := fun z (hz : z ≤ n) => hsum (x := y) h0 hz fun j hj => hy j (by omega)
  refine sem_loop tab_ok gamRb3_ok mixed (by kernel_rfl) (O := lex) (fun i : Nat => ⟨[(0, .c (.sl 1 n (c1 y))), (5, intV (S (rkC m p q y) i)), (6, intV (S (hK m p g y) i)), (9, .c (.sl 3 n (cRu s m p q g))), (10, intV n), (11, intV i)], []⟩) (fun i => i ≤ n) (fun i => n - i) ⟨0, [], Nat.zero_le _, ?_⟩ fun i hi => ?_
  · refine Sub.of ?_ ?_ ?_
    repeat' (first | (refine And.intro ?_ ?_) | exact trivial | exact fun _ _ _ => hsc _ _ | (exact congrArg intV (by first | with_reducible rfl | with_reducible assumption)) | exact (rfl : AV.idsLt _ _ = true) | exact (rfl : _ = AV.ren _ (.own _)) | exact (rfl : _ = AV.ren _ (.fn _ _)) | exact (rfl : _ = AV.ren _ (.gh _)) | (exact congrArg intV (by assumption)) | (refine congrArg intV ((wr_id (by omega) (by omega)).trans (by omega))) | exact rfl | (simp only [Int.toNat_natCast, Int.toNat_zero, Nat.sub_zero, Nat.zero_add]; first | exact rfl | done) | exact all0 | exact fun h => Bool.noConfusion h | exact fun _ _ _ _ => rfl | omega)
  have hoi := hall i
  have hyi := hy i
  have h1 := hCb i hi
  have h2 := hHb i hi
  have e1 : i < n → IntKind.i64.wrap (S (rkC m p q y) i + S (ct (p i) (q i) (y i)) (m i)) = S (rkC m p q y) (i + 1) := fun h => by
    have k1 := hCb (i + 1) h
    have k2 : S (rkC m p q y) (i + 1) = S (rkC m p q y) i + S (ct (p i) (q i) (y i)) (m i) := rfl
    rw [k2] at k1 ⊢
    exact wr_id (by omega) (by omega)
  have e2 : i < n → IntKind.i64.wrap (S (hK m p g y) i + min (g i) (IntKind.i64.wrap (S (p i) (m i) - y i))) = S (hK m p g y) (i + 1) := fun h => by
    have k1 := hHb (i + 1) h
    have k2 : S (hK m p g y) (i + 1) = S (hK m p g y) i + min (g i) (S (p i) (m i) - y i) := rfl
    have := hoi h
    have := hyi h
    rw [wr_id (x := S (p i) (m i) - y i) (by omega) (by omega), ← k2]
    exact wr_id (by omega) (by omega)
  conv => whnf
  repeat' (first
    | (refine NilG.mk fun bn hbn => ?_; conv => whnf)
    | (refine Both.mk ?_ ?_ <;> conv => whnf)
    | exact trivial
    | (refine Br.mk (fun hb => ?_) (fun hb => ?_) <;> (first | (exfalso; revert hb; decide) | ((try simp only [BL] at hb) <;> (try simp only [DL] at hb) <;> conv => whnf)))
    | (refine And.intro ?_ ?_; (focus (first | exact id | exact rfl | exact trivial | (intro hg; first | exact hg | exact rfl | (simp; done) | (simp at hg ⊢; assumption)) | omega | decide | exact is2_c _ _ _ | exact is1_c _ _ | exact isS_c _ _ | exact isB_c _ _ | exact Nat.le_refl _ | assumption | exact mulLe (by decide) (by omega) | exact mulLe2 (by decide) (by omega) (by omega) | (intros; simp only [BL] at *; omega) | (intros; (try simp only [BL] at *); (try simp only [DL] at *); omega) | (intros; simp only [BL] at *; rw [wr_id (by omega) (by omega)]; omega) | (intro h1 h2; exact Bool.and_eq_true_iff.2 ⟨h1, h2⟩) | first | exact ⟨is2_c _ _ _, (hoi (by omega)).1, (hyi (by omega)).1, Int.le_trans (hyi (by omega)).2 (Int.le_trans (hoi (by omega)).2.2.1 (by decide))⟩ | exact ⟨is2_c _ _ _, (hoi (by omega)).1⟩ | (intros; simp_all; done))); conv => whnf)
    | (refine Or.inr (And.intro rfl ?_); first | (refine congrArg intV ?_) | (refine congrArg boolV ?_) | (refine tupII ?_ ?_) | (refine tupIII ?_ ?_ ?_) | (refine tupU ?_ ?_ ?_ ?_ ?_) | exact rfl))
  · have e1 := e1 (by omega)
    have e2 := e2 (by omega)
    refine ⟨i + 1, [], by omega, by omega, ?_⟩
    refine Sub.of ?_ ?_ ?_
    repeat' (first | (refine And.intro ?_ ?_) | exact trivial | exact fun _ _ _ => hsc _ _ | (exact congrArg intV (by first | with_reducible rfl | with_reducible assumption)) | exact (rfl : AV.idsLt _ _ = true) | exact (rfl : _ = AV.ren _ (.own _)) | exact (rfl : _ = AV.ren _ (.fn _ _)) | exact (rfl : _ = AV.ren _ (.gh _)) | (exact congrArg intV (by assumption)) | (refine congrArg intV ((wr_id (by omega) (by omega)).trans (by omega))) | exact rfl | (simp only [Int.toNat_natCast, Int.toNat_zero, Nat.sub_zero, Nat.zero_add]; first | exact rfl | done) | exact all0 | exact fun h => Bool.noConfusion h | exact fun _ _ _ _ => rfl | omega)
  · obtain rfl : i = n := by omega
    rfl
  · obtain rfl : i = n := by omega
    rfl
theorem rbLaw (n : Nat) (s : Nat → ByteArray) (m : Nat → Nat) (p q : Nat → Nat → Int) (g : Nat → Int) (T nd : Int) (hB : n * 40 ≤ 140737488355328) (hk : ∀ k, k < n → (s k).size ≤ maxLen ∧ m k ≤ maxLen) : Fn1 Try.prog 11 [.c (.sl 3 n (cRu s m p q g)), intV T, intV nd] (boolV true) := by
  refine fn_of_wpx (O := lex) tab_ok gamRb3_ok mixed Try.func11 (by kernel_rfl) rfl rfl rfl (by simp [Try.ntmps11]) (by kernel_rfl) ?_
  conv => whnf
  repeat' (first
    | (refine NilG.mk fun bn hbn => ?_; conv => whnf)
    | (refine Both.mk ?_ ?_ <;> conv => whnf)
    | exact trivial
    | (refine Br.mk (fun hb => ?_) (fun hb => ?_) <;> (first | (exfalso; revert hb; decide) | ((try simp only [BL] at hb) <;> (try simp only [DL] at hb) <;> conv => whnf)))
    | (refine And.intro ?_ ?_; (focus (first | exact id | exact rfl | exact trivial | (intro hg; first | exact hg | exact rfl | (simp; done) | (simp at hg ⊢; assumption)) | omega | decide | exact is2_c _ _ _ | exact is1_c _ _ | exact isS_c _ _ | exact isB_c _ _ | exact Nat.le_refl _ | assumption | exact mulLe (by decide) (by omega) | exact mulLe2 (by decide) (by omega) (by omega) | (intros; simp only [BL] at *; omega) | (intros; (try simp only [BL] at *); (try simp only [DL] at *); omega) | (intros; simp only [BL] at *; rw [wr_id (by omega) (by omega)]; omega) | (intro h1 h2; exact Bool.and_eq_true_iff.2 ⟨h1, h2⟩) | (intros; simp_all; done))); conv => whnf)
    | (refine Or.inr (And.intro rfl ?_); first | (refine congrArg intV ?_) | (refine congrArg boolV ?_) | (refine tupII ?_ ?_) | (refine tupIII ?_ ?_ ?_) | (refine tupU ?_ ?_ ?_ ?_ ?_) | exact rfl))
  refine CallG.mk (Fn.mono ((rbBestR 2 reS reM reP reQ reG 8 12 (by decide) (fun k hk => ⟨by unfold reS; split <;> decide, show 1 ≤ maxLen by decide⟩)).le (Le.cons (Le1.l (LLe.sl ?_)) (Le.cons (Le1.refl _) (Le.cons (Le1.refl _) Le.nil)))) ?_)
  · intro k hk' j hj
    have hj : j < 3 := hj
    match k, hk', j, hj with
    | 0, _, 0, _ => exact LLe.of_eq rfl
    | 0, _, 1, _ => 
      refine LLe.sl fun a ha b hb => ?_
      have hb : b < 2 := hb
      match a, ha, b, hb with
      | 0, _, 0, _ => exact LLe.of_eq rfl
      | 0, _, 1, _ => exact LLe.of_eq rfl
    | 0, _, 2, _ => exact LLe.of_eq rfl
    | 1, _, 0, _ => exact LLe.of_eq rfl
    | 1, _, 1, _ => 
      refine LLe.sl fun a ha b hb => ?_
      have hb : b < 2 := hb
      match a, ha, b, hb with
      | 0, _, 0, _ => exact LLe.of_eq rfl
      | 0, _, 1, _ => exact LLe.of_eq rfl
    | 1, _, 2, _ => exact LLe.of_eq rfl
  rintro obs r ⟨rfl, E, K, y, c, rfl, hz⟩
  have hex : E = 0 ∧ c = 40 := by
    rcases hz with ⟨h1, h2, _⟩ | ⟨_, π, hq, ⟨h1, _⟩ | ⟨h1, h2, _, _, h3⟩⟩
    · rw [re_E] at h1
      exact absurd h1 h2
    · have := (re_cost hq).1
      omega
    · exact ⟨h2, h3.trans (re_cost hq).2⟩
  obtain ⟨rfl, rfl⟩ := hex
  clear hz
  conv => whnf
  repeat' (first
    | (refine NilG.mk fun bn hbn => ?_; conv => whnf)
    | (refine Both.mk ?_ ?_ <;> conv => whnf)
    | exact trivial
    | (refine Br.mk (fun hb => ?_) (fun hb => ?_) <;> (first | (exfalso; revert hb; decide) | ((try simp only [BL] at hb) <;> (try simp only [DL] at hb) <;> conv => whnf)))
    | (refine And.intro ?_ ?_; (focus (first | exact id | exact rfl | exact trivial | (intro hg; first | exact hg | exact rfl | (simp; done) | (simp at hg ⊢; assumption)) | omega | decide | exact is2_c _ _ _ | exact is1_c _ _ | exact isS_c _ _ | exact isB_c _ _ | exact Nat.le_refl _ | assumption | exact mulLe (by decide) (by omega) | exact mulLe2 (by decide) (by omega) (by omega) | (intros; simp only [BL] at *; omega) | (intros; (try simp only [BL] at *); (try simp only [DL] at *); omega) | (intros; simp only [BL] at *; rw [wr_id (by omega) (by omega)]; omega) | (intro h1 h2; exact Bool.and_eq_true_iff.2 ⟨h1, h2⟩) | (intros; simp_all; done))); conv => whnf)
    | (refine Or.inr (And.intro rfl ?_); first | (refine congrArg intV ?_) | (refine congrArg boolV ?_) | (refine tupII ?_ ?_) | (refine tupIII ?_ ?_ ?_) | (refine tupU ?_ ?_ ?_ ?_ ?_) | exact rfl))
  refine CallG.mk (Fn.mono (rbBestR n s m p q g T nd hB hk) ?_)
  rintro obs r ⟨rfl, E, K, y, c, rfl, hz⟩
  conv => whnf
  repeat' (first
    | (refine NilG.mk fun bn hbn => ?_; conv => whnf)
    | (refine Both.mk ?_ ?_ <;> conv => whnf)
    | exact trivial
    | (refine Br.mk (fun hb => ?_) (fun hb => ?_) <;> (first | (exfalso; revert hb; decide) | ((try simp only [BL] at hb) <;> (try simp only [DL] at hb) <;> conv => whnf)))
    | (refine And.intro ?_ ?_; (focus (first | exact id | exact rfl | exact trivial | (intro hg; first | exact hg | exact rfl | (simp; done) | (simp at hg ⊢; assumption)) | omega | decide | exact is2_c _ _ _ | exact is1_c _ _ | exact isS_c _ _ | exact isB_c _ _ | exact Nat.le_refl _ | assumption | exact mulLe (by decide) (by omega) | exact mulLe2 (by decide) (by omega) (by omega) | (intros; simp only [BL] at *; omega) | (intros; (try simp only [BL] at *); (try simp only [DL] at *); omega) | (intros; simp only [BL] at *; rw [wr_id (by omega) (by omega)]; omega) | (intro h1 h2; exact Bool.and_eq_true_iff.2 ⟨h1, h2⟩) | exact isRu_c hB hk | (intros; simp_all; done))); conv => whnf)
    | (refine Or.inr (And.intro rfl ?_); first | (refine congrArg intV ?_) | (refine congrArg boolV ?_) | (refine tupII ?_ ?_) | (refine tupIII ?_ ?_ ?_) | (refine tupU ?_ ?_ ?_ ?_ ?_) | exact rfl))
  · have h0 : ¬ unE n s m p q g = 0 := hb
    have hE : rbE n s m p q g T nd = unE n s m p q g := if_pos h0
    obtain ⟨h1, h2, h3⟩ : E = unE n s m p q g ∧ K = 0 ∧ c = 0 := by
      rcases hz with ⟨h1, _, h3, h4⟩ | ⟨h1, _⟩
      · exact ⟨h1.trans hE, h3, h4⟩
      · exact absurd (hE.symm.trans h1) h0
    show (E == unE n s m p q g && (K : Int) == 0 && c == 0) = true
    rw [h1, h2, h3]
    simp
  · have h0 : unE n s m p q g = 0 := by rename_i h; exact h
    have hE : rbE n s m p q g T nd = 4 := by
      unfold rbE
      rw [if_neg (fun h => h h0), if_pos (by simp only [badN, BL]; omega)]
    obtain ⟨h1, h2, h3⟩ : E = 4 ∧ K = 0 ∧ c = 0 := by
      rcases hz with ⟨h1, _, h3, h4⟩ | ⟨h1, _⟩
      · exact ⟨h1.trans hE, h3, h4⟩
      · omega
    rw [h1, h2, h3]
    rfl
  have h0 : unE n s m p q g = 0 := by rename_i h; exact h
  have hr : (0 ≤ T ∧ T ≤ 1000000) ∧ 0 ≤ nd ∧ nd ≤ 1000000 := by omega
  obtain ⟨hn10, hall⟩ := unE_zero h0
  clear hb
  refine LoopG.nil 16 3 1 rfl ?_
  refine sem_loop tab_ok gamRb3_ok mixed (by kernel_rfl) (O := lex) (fun k : Nat => ⟨[(1, intV T), (2, intV nd), (3, .lp 0 0), (12, .c (.sl 1 K (c1 y))), (13, intV c), (14, intV E), (16, .own 1), (96, .c (.sl 3 n (cRu s m p q g))), (97, intV n), (98, intV k)], [.box [.c (.sl 3 n (cRu s m p q g))], .row 3 1 k false (c1 fun k => S (p k) (m k))]⟩) (fun k => k ≤ n ∧ (0 < k → n ≤ 3) ∧ ∀ j, j < k → S (p j) (m j) ≤ 8) (fun k => n - k) ⟨0, [?_, ?_], ⟨Nat.zero_le _, fun h => absurd h (by decide), fun j hj => absurd hj (Nat.not_lt_zero _)⟩, ?_⟩ fun k hki => ?_
  rotate_left 2
  · refine Sub.of ?_ ?_ ?_
    repeat' (first | (refine And.intro ?_ ?_) | exact trivial | exact fun _ _ _ => hsc _ _ | (exact congrArg intV (by first | with_reducible rfl | with_reducible assumption)) | exact (rfl : AV.idsLt _ _ = true) | exact (rfl : _ = AV.ren _ (.own _)) | exact (rfl : _ = AV.ren _ (.fn _ _)) | exact (rfl : _ = AV.ren _ (.gh _)) | (exact congrArg intV (by assumption)) | (refine congrArg intV ((wr_id (by omega) (by omega)).trans (by omega))) | exact rfl | (simp only [Int.toNat_natCast, Int.toNat_zero, Nat.sub_zero, Nat.zero_add]; first | exact rfl | done) | exact all0 | exact fun h => Bool.noConfusion h | exact fun _ _ _ _ => rfl | omega)
  have hak := hall k
  conv => whnf
  repeat' (first
    | (refine NilG.mk fun bn hbn => ?_; conv => whnf)
    | (refine Both.mk ?_ ?_ <;> conv => whnf)
    | exact trivial
    | (refine Br.mk (fun hb => ?_) (fun hb => ?_) <;> (first | (exfalso; revert hb; decide) | ((try simp only [BL] at hb) <;> (try simp only [DL] at hb) <;> conv => whnf)))
    | (refine And.intro ?_ ?_; (focus (first | exact id | exact rfl | exact trivial | (intro hg; first | exact hg | exact rfl | (simp; done) | (simp at hg ⊢; assumption)) | omega | decide | exact is2_c _ _ _ | exact is1_c _ _ | exact isS_c _ _ | exact isB_c _ _ | exact Nat.le_refl _ | assumption | exact mulLe (by decide) (by omega) | exact mulLe2 (by decide) (by omega) (by omega) | (intros; simp only [BL] at *; omega) | (intros; (try simp only [BL] at *); (try simp only [DL] at *); omega) | (intros; simp only [BL] at *; rw [wr_id (by omega) (by omega)]; omega) | (intro h1 h2; exact Bool.and_eq_true_iff.2 ⟨h1, h2⟩) | first | exact ⟨is2_c _ _ _, (hak (by omega)).1⟩ | (intros; simp_all; done))); conv => whnf)
    | (refine Or.inr (And.intro rfl ?_); first | (refine congrArg intV ?_) | (refine congrArg boolV ?_) | (refine tupII ?_ ?_) | (refine tupIII ?_ ?_ ?_) | (refine tupU ?_ ?_ ?_ ?_ ?_) | exact rfl))
  · rfl
  · have hkn : k < n := by omega
    refine ⟨k + 1, [?_, ?_], ⟨by omega, fun _ => by omega, fun j hj => by rcases Nat.lt_succ_iff_lt_or_eq.1 hj with h | rfl; exact hki.2.2 j h; omega⟩, by omega, ?_⟩
    rotate_left 2
    refine Sub.of ?_ ?_ ?_
    repeat' (first | (refine And.intro ?_ ?_) | exact trivial | exact fun _ _ _ => hsc _ _ | (exact congrArg intV (by first | with_reducible rfl | with_reducible assumption)) | exact (rfl : AV.idsLt _ _ = true) | exact (rfl : _ = AV.ren _ (.own _)) | exact (rfl : _ = AV.ren _ (.fn _ _)) | exact (rfl : _ = AV.ren _ (.gh _)) | (exact congrArg intV (by assumption)) | (refine congrArg intV ((wr_id (by omega) (by omega)).trans (by omega))) | exact rfl | (simp only [Int.toNat_natCast, Int.toNat_zero, Nat.sub_zero, Nat.zero_add]; first | exact rfl | done) | exact all0 | exact fun h => Bool.noConfusion h | exact fun _ _ _ _ => rfl | omega)
    intro aq haq bq hbq
    by_cases hltq : aq < k
    · exact if_pos hltq
    · obtain rfl : aq = k := by omega
      refine (if_neg hltq).trans ?_
      rw [Nat.sub_self]
      revert bq hbq
      refine all1 rfl
  obtain ⟨_, hk3, hk8⟩ := hki
  have hkn : k = n := by omega
  subst hkn
  clear hb hak
  have hn3 : k ≤ 3 := by
    rcases Nat.eq_zero_or_pos k with h | h
    · omega
    · exact hk3 h
  have hlm : lmOk (fun k => S (p k) (m k)) k := ⟨hn3, fun j hj => ⟨(hall j hj).2.1, hk8 j hj⟩⟩
  refine CallG.pre [1] (Fn.mono ((lists k (fun k => S (p k) (m k)) (min T 1000) hlm (by omega) (by omega)).le (Le.cons (Le1.refl _) (Le.cons (Le1.refl _) Le.nil))) ?_)
  rintro obs r ⟨rfl, rfl⟩
  conv => whnf
  repeat' (first
    | (refine NilG.mk fun bn hbn => ?_; conv => whnf)
    | (refine Both.mk ?_ ?_ <;> conv => whnf)
    | exact trivial
    | (refine Br.mk (fun hb => ?_) (fun hb => ?_) <;> (first | (exfalso; revert hb; decide) | ((try simp only [BL] at hb) <;> (try simp only [DL] at hb) <;> conv => whnf)))
    | (refine And.intro ?_ ?_; (focus (first | exact id | exact rfl | exact trivial | (intro hg; first | exact hg | exact rfl | (simp; done) | (simp at hg ⊢; assumption)) | omega | decide | exact is2_c _ _ _ | exact is1_c _ _ | exact isS_c _ _ | exact isB_c _ _ | exact Nat.le_refl _ | assumption | exact mulLe (by decide) (by omega) | exact mulLe2 (by decide) (by omega) (by omega) | (intros; simp only [BL] at *; omega) | (intros; (try simp only [BL] at *); (try simp only [DL] at *); omega) | (intros; simp only [BL] at *; rw [wr_id (by omega) (by omega)]; omega) | (intro h1 h2; exact Bool.and_eq_true_iff.2 ⟨h1, h2⟩) | (intros; simp_all; done))); conv => whnf)
    | (refine Or.inr (And.intro rfl ?_); first | (refine congrArg intV ?_) | (refine congrArg boolV ?_) | (refine tupII ?_ ?_) | (refine tupIII ?_ ?_ ?_) | (refine tupU ?_ ?_ ?_ ?_ ?_) | exact rfl))
  have hAy : ∀ i, i < (LS (fun k => S (p k) (m k)) k (min T 1000)).length → ∀ j, j < k → 0 ≤ lF' ((LS (fun k => S (p k) (m k)) k (min T 1000)).getD i []) j ∧ lF' ((LS (fun k => S (p k) (m k)) k (min T 1000)).getD i []) j ≤ S (p j) (m j) := fun i hi j hj => by
    obtain ⟨_, _, g3⟩ := LS_mem.1 (rl_of hi)
    exact g3 j hj
  have hAl : ∀ i, i < (LS (fun k => S (p k) (m k)) k (min T 1000)).length → ((LS (fun k => S (p k) (m k)) k (min T 1000)).getD i []).length = k := fun i hi => (LS_mem.1 (rl_of hi)).1
  have hlen : (LS (fun k => S (p k) (m k)) k (min T 1000)).length ≤ 729 := Nat.le_trans (LS_len fun j hj => hk8 j hj) (Nat.pow_le_pow_right (n := 9) (by decide) hn3)
  have hmin : (E = 8 ∧ K = 0 ∧ c = 0 ∧ (rmF (rlO m p g nd k (LS (fun k => S (p k) (m k)) k (min T 1000))) (rlC m p q k (LS (fun k => S (p k) (m k)) k (min T 1000))) (LS (fun k => S (p k) (m k)) k (min T 1000)).length).2 = false) ∨
      (E = 0 ∧ K = k ∧ rmF (rlO m p g nd k (LS (fun k => S (p k) (m k)) k (min T 1000))) (rlC m p q k (LS (fun k => S (p k) (m k)) k (min T 1000))) (LS (fun k => S (p k) (m k)) k (min T 1000)).length = (S (rkC m p q y) k, true) ∧
        (∀ j, j < k → 0 ≤ y j ∧ y j ≤ S (p j) (m j)) ∧ S y k = T ∧ S (hK m p g y) k ≥ nd ∧ c = S (rkC m p q y) k) := by
    rcases hz with ⟨h1, h2, h3, h4⟩ | ⟨h1, π, hq, ⟨h2, h3, h4, h5⟩ | ⟨h2, h3, h4, h5, h6⟩⟩
    · have hL : S (hK m p g z0) k - nd < 0 := by
        by_cases hL : S (hK m p g z0) k - nd < 0
        · exact hL
        · exfalso
          rw [h1] at h2
          unfold rbE at h2
          rw [if_neg (fun h => h h0), if_neg (by simp only [badN, BL]; omega), if_neg hL] at h2
          exact h2 rfl
      have h8 : E = 8 := by
        rw [h1]
        unfold rbE
        rw [if_neg (fun h => h h0), if_neg (by simp only [badN, BL]; omega), if_pos hL]
      exact .inl ⟨h8, h3, h4, rm_none h0 hr.1 hk8 hn3 (.inl hL)⟩
    · exact .inl ⟨h3, h4, h5, rm_none h0 hr.1 hk8 hn3 (.inr ⟨(rbE_zero h1).2.2.2.2, π, hq, h2⟩)⟩
    · obtain ⟨f1, f2, f3, f4, f5⟩ := rm_some h0 hr.1 hk8 hn3 (rbE_zero h1).2.2.2.2 hq h2 h5
      exact .inr ⟨h3, h4, f1, f2, f3, f4, h6.trans f5⟩
  clear hz hk3
  generalize LS (fun k => S (p k) (m k)) k (min T 1000) = A at *
  refine sem_loop tab_ok gamRb3_ok mixed (by kernel_rfl) (O := lex) (fun i : Nat => ⟨[(1, intV T), (2, intV nd), (3, .lp 0 0), (12, .c (.sl 1 K (c1 y))), (13, intV c), (14, intV E), (16, .c (.sl 1 k (c1 fun k => S (p k) (m k)))), (19, .fn 57 [.lp 0 0]), (20, intV (rmF (rlO m p g nd k A) (rlC m p q k A) i).1), (21, boolV (rmF (rlO m p g nd k A) (rlC m p q k A) i).2), (122, .c (.sl 1 A.length (rowL A k))), (123, intV A.length), (124, intV i)], [.box [.c (.sl 3 k (cRu s m p q g))]]⟩) (fun i => i ≤ A.length) (fun i => A.length - i) ⟨0, [?_], Nat.zero_le _, ?_⟩ fun i hi => ?_
  rotate_left 1
  · refine Sub.of ?_ ?_ ?_
    repeat' (first | (refine And.intro ?_ ?_) | exact trivial | exact fun _ _ _ => hsc _ _ | (exact congrArg intV (by first | with_reducible rfl | with_reducible assumption)) | exact (rfl : AV.idsLt _ _ = true) | exact (rfl : _ = AV.ren _ (.own _)) | exact (rfl : _ = AV.ren _ (.fn _ _)) | exact (rfl : _ = AV.ren _ (.gh _)) | (exact congrArg intV (by assumption)) | (refine congrArg intV ((wr_id (by omega) (by omega)).trans (by omega))) | exact rfl | (simp only [Int.toNat_natCast, Int.toNat_zero, Nat.sub_zero, Nat.zero_add]; first | exact rfl | done) | exact all0 | exact fun h => Bool.noConfusion h | exact fun _ _ _ _ => rfl | omega)
  conv => whnf
  repeat' (first
    | (refine NilG.mk fun bn hbn => ?_; conv => whnf)
    | (refine Both.mk ?_ ?_ <;> conv => whnf)
    | exact trivial
    | (refine Br.mk (fun hb => ?_) (fun hb => ?_) <;> (first | (exfalso; revert hb; decide) | ((try simp only [BL] at hb) <;> (try simp only [DL] at hb) <;> conv => whnf)))
    | (refine And.intro ?_ ?_; (focus (first | exact id | exact rfl | exact trivial | (intro hg; first | exact hg | exact rfl | (simp; done) | (simp at hg ⊢; assumption)) | omega | decide | exact is2_c _ _ _ | exact is1_c _ _ | exact isS_c _ _ | exact isB_c _ _ | exact Nat.le_refl _ | assumption | exact mulLe (by decide) (by omega) | exact mulLe2 (by decide) (by omega) (by omega) | (intros; simp only [BL] at *; omega) | (intros; (try simp only [BL] at *); (try simp only [DL] at *); omega) | (intros; simp only [BL] at *; rw [wr_id (by omega) (by omega)]; omega) | (intro h1 h2; exact Bool.and_eq_true_iff.2 ⟨h1, h2⟩) | (intros; simp_all; done))); conv => whnf)
    | (refine Or.inr (And.intro rfl ?_); first | (refine congrArg intV ?_) | (refine congrArg boolV ?_) | (refine tupII ?_ ?_) | (refine tupIII ?_ ?_ ?_) | (refine tupU ?_ ?_ ?_ ?_ ?_) | exact rfl))
  · have hiA : i < A.length := by omega
    refine CallG.mk (Fn.mono ((rbCost k s m p q g (lF' (A.getD i [])) h0 (hAy i hiA)).le (Le.cons (Le1.sl fun a ha b hb1 => ?_) (Le.cons (Le1.refl _) Le.nil))) ?_)
    · obtain rfl : b = 0 := by omega
      exact rCell_at (A.getD i []) a (by rw [hAl i hiA]; exact ha)
    rintro obs r ⟨rfl, rfl⟩
    have eC : S (rkC m p q (lF' (A.getD i []))) k = rlC m p q k A i := rfl
    rw [eC]
    have hstep : rmF (rlO m p g nd k A) (rlC m p q k A) (i + 1) = if rlO m p g nd k A i = true ∧ ((rmF (rlO m p g nd k A) (rlC m p q k A) i).2 = false ∨ rlC m p q k A i < (rmF (rlO m p g nd k A) (rlC m p q k A) i).1) then (rlC m p q k A i, true) else rmF (rlO m p g nd k A) (rlC m p q k A) i := rfl
    have hO : rlO m p g nd k A i = true ↔ S (hK m p g (lF' (A.getD i []))) k ≥ nd := decide_eq_true_iff
    conv => whnf
    repeat' (first
      | (refine NilG.mk fun bn hbn => ?_; conv => whnf)
      | (refine Both.mk ?_ ?_ <;> conv => whnf)
      | exact trivial
      | (refine Br.mk (fun hb => ?_) (fun hb => ?_) <;> (first | (exfalso; revert hb; decide) | ((try simp only [BL] at hb) <;> (try simp only [DL] at hb) <;> conv => whnf)))
      | (refine And.intro ?_ ?_; (focus (first | exact id | exact rfl | exact trivial | (intro hg; first | exact hg | exact rfl | (simp; done) | (simp at hg ⊢; assumption)) | omega | decide | exact is2_c _ _ _ | exact is1_c _ _ | exact isS_c _ _ | exact isB_c _ _ | exact Nat.le_refl _ | assumption | exact mulLe (by decide) (by omega) | exact mulLe2 (by decide) (by omega) (by omega) | (intros; simp only [BL] at *; omega) | (intros; (try simp only [BL] at *); (try simp only [DL] at *); omega) | (intros; simp only [BL] at *; rw [wr_id (by omega) (by omega)]; omega) | (intro h1 h2; exact Bool.and_eq_true_iff.2 ⟨h1, h2⟩) | (intros; simp_all; done))); conv => whnf)
      | (refine Or.inr (And.intro rfl ?_); first | (refine congrArg intV ?_) | (refine congrArg boolV ?_) | (refine tupII ?_ ?_) | (refine tupIII ?_ ?_ ?_) | (refine tupU ?_ ?_ ?_ ?_ ?_) | exact rfl))
    · have e1 : rmF (rlO m p g nd k A) (rlC m p q k A) (i + 1) = (rlC m p q k A i, true) := by rw [hstep, if_pos ⟨hO.2 hb.1, hb.2⟩]
      have e2 : rlC m p q k A i = (rmF (rlO m p g nd k A) (rlC m p q k A) (i + 1)).1 := by rw [e1]
      have e3 : boolV true = boolV (rmF (rlO m p g nd k A) (rlC m p q k A) (i + 1)).2 := by rw [e1]
      refine ⟨i + 1, [?_], by omega, by omega, ?_⟩
      rotate_left 1
      refine Sub.of ?_ ?_ ?_
      repeat' (first | (exact e3) | (refine And.intro ?_ ?_) | exact trivial | exact fun _ _ _ => hsc _ _ | (exact congrArg intV (by first | with_reducible rfl | with_reducible assumption)) | exact (rfl : AV.idsLt _ _ = true) | exact (rfl : _ = AV.ren _ (.own _)) | exact (rfl : _ = AV.ren _ (.fn _ _)) | exact (rfl : _ = AV.ren _ (.gh _)) | (exact congrArg intV (by assumption)) | (refine congrArg intV ((wr_id (by omega) (by omega)).trans (by omega))) | exact rfl | (simp only [Int.toNat_natCast, Int.toNat_zero, Nat.sub_zero, Nat.zero_add]; first | exact rfl | done) | exact all0 | exact fun h => Bool.noConfusion h | exact fun _ _ _ _ => rfl | omega)
    · have e1 : rmF (rlO m p g nd k A) (rlC m p q k A) i = rmF (rlO m p g nd k A) (rlC m p q k A) (i + 1) := by
        rw [hstep, if_neg]
        rintro ⟨h1, h2⟩
        rcases hb with hb | hb
        · exact hb (hO.1 h1)
        · rcases h2 with h2 | h2
          · rw [h2] at hb; cases hb.1
          · exact hb.2 h2
      have e2 : (rmF (rlO m p g nd k A) (rlC m p q k A) i).1 = (rmF (rlO m p g nd k A) (rlC m p q k A) (i + 1)).1 := by rw [← e1]
      have e3 : boolV (rmF (rlO m p g nd k A) (rlC m p q k A) i).2 = boolV (rmF (rlO m p g nd k A) (rlC m p q k A) (i + 1)).2 := by rw [← e1]
      refine ⟨i + 1, [?_], by omega, by omega, ?_⟩
      rotate_left 1
      refine Sub.of ?_ ?_ ?_
      repeat' (first | (exact e3) | (refine And.intro ?_ ?_) | exact trivial | exact fun _ _ _ => hsc _ _ | (exact congrArg intV (by first | with_reducible rfl | with_reducible assumption)) | exact (rfl : AV.idsLt _ _ = true) | exact (rfl : _ = AV.ren _ (.own _)) | exact (rfl : _ = AV.ren _ (.fn _ _)) | exact (rfl : _ = AV.ren _ (.gh _)) | (exact congrArg intV (by assumption)) | (refine congrArg intV ((wr_id (by omega) (by omega)).trans (by omega))) | exact rfl | (simp only [Int.toNat_natCast, Int.toNat_zero, Nat.sub_zero, Nat.zero_add]; first | exact rfl | done) | exact all0 | exact fun h => Bool.noConfusion h | exact fun _ _ _ _ => rfl | omega)
  · have hiA : i = A.length := by omega
    rw [hiA] at hb
    rcases hmin with ⟨h1, h2, h3, _⟩ | ⟨_, _, h3, _⟩
    · rw [h1, h2, h3]
      rfl
    · rw [h3] at hb
      cases hb
  · have hiA : i = A.length := by omega
    rw [hiA] at hb
    exfalso
    rcases hmin with ⟨z1, z2, z3, h3⟩ | ⟨h1, h2, h3, z4, z5, z6, h4⟩
    · rename_i h9
      rw [hiA, h3] at h9
      cases h9
    · rw [h3] at hb
      rcases hb with (hb | hb) | hb
      · exact hb h1
      · exact hb h4
      · exact hb (congrArg (fun z : Nat => (z : Int)) h2)
  have hiA : i = A.length := by omega
  subst hiA
  obtain ⟨hE, hK1, h3, hyb, hys, hyh, hc⟩ : E = 0 ∧ K = k ∧ rmF (rlO m p g nd k A) (rlC m p q k A) A.length = (S (rkC m p q y) k, true) ∧
        (∀ j, j < k → 0 ≤ y j ∧ y j ≤ S (p j) (m j)) ∧ S y k = T ∧ S (hK m p g y) k ≥ nd ∧ c = S (rkC m p q y) k := by
    rcases hmin with ⟨z1, z2, z3, h9⟩ | h9
    · rename_i h8
      rw [h9] at h8
      cases h8
    · exact h9
  have hSy := fun j (hj : j ≤ k) => S_le (p := y) (a := 0) (b := 8) (k := j) fun i hi => by
    have := hyb i (by omega)
    have := hk8 i (by omega)
    omega
  rw [h3]
  subst hK1
  clear hb hmin h3 hAy hAl hlen hi
  refine sem_loop tab_ok gamRb3_ok mixed (by kernel_rfl) (O := lex) (fun j : Nat => ⟨[(1, intV T), (2, intV nd), (12, .c (.sl 1 K (c1 y))), (16, .c (.sl 1 K (c1 fun k => S (p k) (m k)))), (19, .fn 57 [.lp 0 0]), (20, intV (S (rkC m p q y) K)), (26, intV (S y j)), (175, .c (.sl 1 K (c1 y))), (176, intV K), (177, intV j)], [.box [.c (.sl 3 K (cRu s m p q g))]]⟩) (fun j => j ≤ K) (fun j => K - j) ⟨0, [?_], Nat.zero_le _, ?_⟩ fun j hj => ?_
  rotate_left 1
  · refine Sub.of ?_ ?_ ?_
    repeat' (first | (refine And.intro ?_ ?_) | exact trivial | exact fun _ _ _ => hsc _ _ | (exact congrArg intV (by first | with_reducible rfl | with_reducible assumption)) | exact (rfl : AV.idsLt _ _ = true) | exact (rfl : _ = AV.ren _ (.own _)) | exact (rfl : _ = AV.ren _ (.fn _ _)) | exact (rfl : _ = AV.ren _ (.gh _)) | (exact congrArg intV (by assumption)) | (refine congrArg intV ((wr_id (by omega) (by omega)).trans (by omega))) | exact rfl | (simp only [Int.toNat_natCast, Int.toNat_zero, Nat.sub_zero, Nat.zero_add]; first | exact rfl | done) | exact all0 | exact fun h => Bool.noConfusion h | exact fun _ _ _ _ => rfl | omega)
  have w1 : j < K → IntKind.i64.wrap (S y j + y j) = S y (j + 1) := fun h => by
    have h4 := hSy (j + 1) h
    have h5 : S y (j + 1) = S y j + y j := rfl
    rw [← h5]
    exact wr_id (by omega) (by omega)
  conv => whnf
  repeat' (first
    | (refine NilG.mk fun bn hbn => ?_; conv => whnf)
    | (refine Both.mk ?_ ?_ <;> conv => whnf)
    | exact trivial
    | (refine Br.mk (fun hb => ?_) (fun hb => ?_) <;> (first | (exfalso; revert hb; decide) | ((try simp only [BL] at hb) <;> (try simp only [DL] at hb) <;> conv => whnf)))
    | (refine And.intro ?_ ?_; (focus (first | exact id | exact rfl | exact trivial | (intro hg; first | exact hg | exact rfl | (simp; done) | (simp at hg ⊢; assumption)) | omega | decide | exact is2_c _ _ _ | exact is1_c _ _ | exact isS_c _ _ | exact isB_c _ _ | exact Nat.le_refl _ | assumption | exact mulLe (by decide) (by omega) | exact mulLe2 (by decide) (by omega) (by omega) | (intros; simp only [BL] at *; omega) | (intros; (try simp only [BL] at *); (try simp only [DL] at *); omega) | (intros; simp only [BL] at *; rw [wr_id (by omega) (by omega)]; omega) | (intro h1 h2; exact Bool.and_eq_true_iff.2 ⟨h1, h2⟩) | (intros; simp_all; done))); conv => whnf)
    | (refine Or.inr (And.intro rfl ?_); first | (refine congrArg intV ?_) | (refine congrArg boolV ?_) | (refine tupII ?_ ?_) | (refine tupIII ?_ ?_ ?_) | (refine tupU ?_ ?_ ?_ ?_ ?_) | exact rfl))
  · exfalso
    have := hyb j (by omega)
    omega
  · have w1 := w1 (by omega)
    refine ⟨j + 1, [?_], by omega, by omega, ?_⟩
    rotate_left 1
    refine Sub.of ?_ ?_ ?_
    repeat' (first | (refine And.intro ?_ ?_) | exact trivial | exact fun _ _ _ => hsc _ _ | (exact congrArg intV (by first | with_reducible rfl | with_reducible assumption)) | exact (rfl : AV.idsLt _ _ = true) | exact (rfl : _ = AV.ren _ (.own _)) | exact (rfl : _ = AV.ren _ (.fn _ _)) | exact (rfl : _ = AV.ren _ (.gh _)) | (exact congrArg intV (by assumption)) | (refine congrArg intV ((wr_id (by omega) (by omega)).trans (by omega))) | exact rfl | (simp only [Int.toNat_natCast, Int.toNat_zero, Nat.sub_zero, Nat.zero_add]; first | exact rfl | done) | exact all0 | exact fun h => Bool.noConfusion h | exact fun _ _ _ _ => rfl | omega)
  obtain rfl : j = K := by omega
  clear hb
  refine CallG.mk (Fn.mono (rbCost j s m p q g y h0 hyb) ?_)
  rintro obs r ⟨rfl, rfl⟩
  rw [hys]
  conv => whnf
  repeat' (first
    | (refine NilG.mk fun bn hbn => ?_; conv => whnf)
    | (refine Both.mk ?_ ?_ <;> conv => whnf)
    | exact trivial
    | (refine Br.mk (fun hb => ?_) (fun hb => ?_) <;> (first | (exfalso; revert hb; decide) | ((try simp only [BL] at hb) <;> (try simp only [DL] at hb) <;> conv => whnf)))
    | (refine And.intro ?_ ?_; (focus (first | exact id | exact rfl | exact trivial | (intro hg; first | exact hg | exact rfl | (simp; done) | (simp at hg ⊢; assumption)) | omega | decide | exact is2_c _ _ _ | exact is1_c _ _ | exact isS_c _ _ | exact isB_c _ _ | exact Nat.le_refl _ | assumption | exact mulLe (by decide) (by omega) | exact mulLe2 (by decide) (by omega) (by omega) | (intros; simp only [BL] at *; omega) | (intros; (try simp only [BL] at *); (try simp only [DL] at *); omega) | (intros; simp only [BL] at *; rw [wr_id (by omega) (by omega)]; omega) | (intro h1 h2; exact Bool.and_eq_true_iff.2 ⟨h1, h2⟩) | (intros; simp_all; done))); conv => whnf)
    | (refine Or.inr (And.intro rfl ?_); first | (refine congrArg intV ?_) | (refine congrArg boolV ?_) | (refine tupII ?_ ?_) | (refine tupIII ?_ ?_ ?_) | (refine tupU ?_ ?_ ?_ ?_ ?_) | exact rfl))
  simp only [beq_self_eq_true, Bool.true_and, decide_eq_true_eq]
  exact hyh

def tyRb : Ty := .st (.cons tyOff (.cons (.i .i64) .nil))
theorem rbByt (x : Vals [.sl tyRb, .i .i64, .i .i64]) (hz : Vals.szd Try.prog [.sl tyRb, .i .i64, .i .i64] Try.f11.params.toList x) : x.1.1 * 40 ≤ 140737488355328 := by
  have h1 := hz.1 53 (by kernel_rfl)
  have e1 : Try.prog.bytesOf 53 = 48 := by kernel_rfl
  have e2 : reachBytes = 140737488351232 := by kernel_rfl
  rw [e1, e2] at h1
  omega

theorem reserveBest_own : ownKnob Try.prog.godebug = none := by kernel_rfl
theorem reserveBest_laid : laidOutB Try.prog = true := by kernel_rfl

set_option maxRecDepth 100000 in
theorem reserveBest_lifted (os : Os) (started : os.Started) (H : Type) (enc : TypeId × Value → H) :
    ReturnsInHanded {} Try.checked os 11 .any (Rows.reserveBestSpec.pre6 enc Try.prog Try.f11 Rows.reserveBestRow.domain false) (Rows.reserveBestSpec.post enc Try.prog Try.f11 false true false false) := by
  refine returnsInHanded_of_change_sized (C := Try.checked) reserveBest_own started (by kernel_rfl) Try.func11
    (ChangeSpec.witness6 (enc := enc) (C := Try.checked) false ⟨#[], #[.slice none 0 0, .int .i64 0, .int .i64 0], []⟩ 8 (by kernel_rfl) (by kernel_rfl) (by kernel_rfl) (by kernel_rfl)) ?_
  intro W base args ds gs before hval0 hW hcnd hz _
  have hval : ∀ (j : Nat) t v, Try.f11.params[j]? = some t → args[j]? = some v → Value.okWide Try.prog W .any base t v := hval0
  have hW' : DataW.Whole enc Try.prog Try.f11.params.toList Rows.reserveBestSpec.vars false W args.toList ds gs before := hW
  exact law_postS (P := Try.prog) [.sl tyRb, .i .i64, .i .i64] (by kernel_rfl) reserveBest_laid (by kernel_rfl) rfl rfl (tb := 4) rfl (by kernel_rfl) (fun ds h => by
    match ds, h with
    | [d1, d2, d3], _ => rfl) (fun x hx hz => rbLaw x.1.1 (fun k => (x.1.2 k).1.1) (fun k => (x.1.2 k).1.2.1.1) (fun k i => ((x.1.2 k).1.2.1.2 i).1) (fun k i => ((x.1.2 k).1.2.1.2 i).2.1) (fun k => (x.1.2 k).2.1) x.2.1 x.2.2.1 (rbByt x hz) (fun k hk => ⟨(hx.1.2 k hk).1.1, (hx.1.2 k hk).1.2.1.1⟩)) W args ds gs before hval hW' hz

theorem reserveBest_holds : Rows.ReserveBestSaid :=
  OpenClaim.holds_of_wide 11 Try.f11 rfl rfl rfl rfl rfl rfl rfl ⟨rfl, rfl, rfl, rfl, rfl⟩ rfl rfl rfl rfl rfl (by kernel_rfl) Try.func11 (by kernel_rfl)
    (of_decide_eq_true (by kernel_rfl)) (by unfold Func.isWrapper; rw [if_neg (by decide +kernel)]; exact ⟨rfl, rfl⟩)
    (fun os started H enc _ => reserveBest_lifted os started H enc)
end Go.Proofs.Ytdakikgebfphmaa
