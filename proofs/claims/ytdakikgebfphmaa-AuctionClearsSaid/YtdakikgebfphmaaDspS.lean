/-
  The reference Served: unit by unit from the offer whose next unit is cheapest.
-/
import Derived.Test.YtdakikgebfphmaaDspU
namespace Go.Proofs.Ytdakikgebfphmaa
open Go.RowKit

/-- the first place of the least value -/
def amF (f : Nat → Int) : Nat → Nat
  | 0 => 0
  | i + 1 => if f i < f (amF f i) then i else amF f i
theorem amF_le (f : Nat → Int) : ∀ i, amF f i ≤ i - 1
  | 0 => Nat.le_refl _
  | i + 1 => by
    have := amF_le f i
    simp only [amF]
    split <;> omega
theorem amF_eq {f : Nat → Int} {k0 n : Nat} (h : ∀ k, k < n → f k0 ≤ f k ∧ (k < k0 → f k0 < f k)) (hk : k0 < n) : amF f n = k0 := by
  have key : ∀ i, i ≤ n → k0 < i → amF f i = k0 := by
    intro i
    induction i with
    | zero => intro _ h1; exact absurd h1 (Nat.not_lt_zero _)
    | succ i ih =>
      intro hi h1
      simp only [amF]
      rcases Nat.lt_succ_iff_lt_or_eq.1 h1 with hlt | rfl
      · rw [ih (by omega) hlt, if_neg (by have := (h i (by omega)).1; omega)]
      · have h2 := amF_le f k0
        by_cases hz : k0 = 0
        · split
          · rfl
          · omega
        · rw [if_pos ((h _ (by omega)).2 (by omega))]
  exact key n (Nat.le_refl _) hk
def gamQ3 : Gam := fun f => match f with
  | 52 => some (sOi (fun _ n p q _ => okOff n p q) fun _ n p q x => intV (U p q n x))
  | _ => none
theorem gamQ3_ok : GOk Try.prog gamQ3 := fun f g h => by
  unfold gamQ3 at h
  split at h
  · injection h with h; subst h; exact sOi_ok fun s n p q x hp => offUnit s n p q x hp
  · cases h
theorem bX_b {s : Nat → ByteArray} {m : Nat → Nat} {p q : Nat → Nat → Int} {n : Nat} {T : Int} {π : Nat → Nat} {B : Nat} (hO : offsE n s m p q = 0) (hs : Blks2 m p q n π) (hB : bAt m p n π T B) {k : Nat} (hk : k < n) : 0 ≤ bX m p n π T k (oN m n) ∧ bX m p n π T k (oN m n) ≤ 200000 := by
  obtain ⟨_, hall⟩ := offsE_zero hO
  obtain ⟨J, r, f1, f2, _⟩ := hs.fill hB hk
  have h1 := (hall k hk).2.1.S0 f1.le
  have h2 := f1.nn
  have h3 : r ≤ 100000 := by
    rcases Nat.eq_or_lt_of_le f1.le with e | hlt
    · rw [f1.end' e]; decide
    · have := f1.lt hlt
      have := (hall k hk).2.1.2.1 J hlt
      omega
  rw [f2]
  omega
set_option maxHeartbeats 1000000 in
theorem served (s : Nat → ByteArray) (m : Nat → Nat) (p q : Nat → Nat → Int) (n : Nat) (T : Int) (π : Nat → Nat) (hO : offsE n s m p q = 0) (hT : 0 ≤ T ∧ T ≤ S (oS m p) n) (hs : Blks2 m p q n π) :
    Fn1 Try.prog 51 [.c (.sl 2 n (cO s m p q)), intV T] (.c (.sl 1 n (c1 fun k => bX m p n π T k (oN m n)))) := by
  refine fn_of_wpx (O := lex) tab_ok gamQ3_ok mixed Try.func51 (by kernel_rfl) rfl rfl rfl (by simp [Try.ntmps51]) (by kernel_rfl) ?_
  obtain ⟨hn10, hall⟩ := offsE_zero hO
  have hT1 := (oS_le hO (Nat.le_refl n)).2
  conv => whnf
  repeat' (first
    | (refine NilG.mk fun bn hbn => ?_; conv => whnf)
    | (refine Both.mk ?_ ?_ <;> conv => whnf)
    | exact trivial
    | (refine Br.mk (fun hb => ?_) (fun hb => ?_) <;> (first | (exfalso; revert hb; decide) | ((try simp only [BL] at hb) <;> (try simp only [DL] at hb) <;> conv => whnf)))
    | (refine And.intro ?_ ?_; (focus (first | exact id | exact rfl | exact trivial | (intro hg; first | exact hg | exact rfl | (simp; done) | (simp at hg ⊢; assumption)) | omega | decide | exact is2_c _ _ _ | exact is1_c _ _ | exact isS_c _ _ | exact isB_c _ _ | exact Nat.le_refl _ | assumption | exact mulLe (by decide) (by omega) | exact mulLe2 (by decide) (by omega) (by omega) | (intros; simp only [BL] at *; omega) | (intros; (try simp only [BL] at *); (try simp only [DL] at *); omega) | (intros; simp only [BL] at *; rw [wr_id (by omega) (by omega)]; omega) | (intros; simp_all; done))); conv => whnf)
    | (refine Or.inr (And.intro rfl ?_); first | (refine congrArg intV ?_) | (refine congrArg boolV ?_) | (refine tupII ?_ ?_) | (refine tupIII ?_ ?_ ?_) | (refine tupU ?_ ?_ ?_ ?_ ?_) | exact rfl))
  refine sem_loop tab_ok gamQ3_ok mixed (by kernel_rfl) (O := lex) (fun t : Nat => ⟨[(0, .c (.sl 2 n (cO s m p q))), (5, .own 0), (12, intV T), (13, intV t)], [.row 3 1 n false (c1 fun k => bX m p n π t k (oN m n))]⟩) (fun t => (t : Int) ≤ T) (fun t => T.toNat - t) ⟨0, [?_], hT.1, ?_⟩ fun t ht => ?_
  rotate_left 1
  · refine Sub.of ?_ ?_ ?_
    repeat' (first | (refine And.intro ?_ ?_) | exact trivial | exact fun _ _ _ => hsc _ _ | (exact congrArg intV (by first | with_reducible rfl | with_reducible assumption)) | exact (rfl : AV.idsLt _ _ = true) | exact (rfl : _ = AV.ren _ (.own _)) | exact (rfl : _ = AV.ren _ (.fn _ _)) | exact (rfl : _ = AV.ren _ (.gh _)) | (exact congrArg intV (by assumption)) | (refine congrArg intV ((wr_id (by omega) (by omega)).trans (by omega))) | exact rfl | (simp only [Int.toNat_natCast, Int.toNat_zero, Nat.sub_zero, Nat.zero_add]; first | exact rfl | done) | exact all0 | exact fun h => Bool.noConfusion h | exact fun _ _ _ _ => rfl | omega)
    · intro a ha b hb1
      have hb1 : b < 1 := hb1
      obtain rfl : b = 0 := by omega
      show iL 0 = iL (bX m p n π ((0 : Nat) : Int) a (oN m n))
      rw [show ((0 : Nat) : Int) = 0 from rfl, hs.none]
  conv => whnf
  repeat' (first
    | (refine NilG.mk fun bn hbn => ?_; conv => whnf)
    | (refine Both.mk ?_ ?_ <;> conv => whnf)
    | exact trivial
    | (refine Br.mk (fun hb => ?_) (fun hb => ?_) <;> (first | (exfalso; revert hb; decide) | ((try simp only [BL] at hb) <;> (try simp only [DL] at hb) <;> conv => whnf)))
    | (refine And.intro ?_ ?_; (focus (first | exact id | exact rfl | exact trivial | (intro hg; first | exact hg | exact rfl | (simp; done) | (simp at hg ⊢; assumption)) | omega | decide | exact is2_c _ _ _ | exact is1_c _ _ | exact isS_c _ _ | exact isB_c _ _ | exact Nat.le_refl _ | assumption | exact mulLe (by decide) (by omega) | exact mulLe2 (by decide) (by omega) (by omega) | (intros; simp only [BL] at *; omega) | (intros; (try simp only [BL] at *); (try simp only [DL] at *); omega) | (intros; simp only [BL] at *; rw [wr_id (by omega) (by omega)]; omega) | (intros; simp_all; done))); conv => whnf)
    | (refine Or.inr (And.intro rfl ?_); first | (refine congrArg intV ?_) | (refine congrArg boolV ?_) | (refine tupII ?_ ?_) | (refine tupIII ?_ ?_ ?_) | (refine tupU ?_ ?_ ?_ ?_ ?_) | exact rfl))
  · have htT : (t : Int) < T := by omega
    obtain ⟨B, hB⟩ := hs.at (T := t) (by omega) (by have h9 : S (fun k => S (p k) (m k)) n = S (oS m p) n := rfl; omega)
    have hlt : B < oN m n := by
      rcases Nat.eq_or_lt_of_le hB.le with e | h1
      · have h2 := hB.fin e
        rw [e, hs.cum_all] at h2
        have h9 : S (fun k => S (p k) (m k)) n = S (oS m p) n := rfl
        omega
      · exact h1
    obtain ⟨o1, o2, o3⟩ := hs.next hB hlt
    have hst := hs.step hB hlt
    generalize hf : (fun k => U (p k) (q k) (m k) (bX m p n π t k (oN m n))) = f
    have hfk : ∀ k, U (p k) (q k) (m k) (bX m p n π t k (oN m n)) = f k := fun k => by rw [← hf]
    have ham : amF f n = own m n (π B) := amF_eq (fun k hk => by rw [← hfk, ← hfk, o2]; exact o3 k hk) o1
    clear hb
    refine sem_loop tab_ok gamQ3_ok mixed (by kernel_rfl) (O := lex) (fun i : Nat => ⟨[(0, .c (.sl 2 n (cO s m p q))), (5, .own 0), (6, intV (amF f i)), (12, intV T), (13, intV t), (15, .c (.sl 2 n (cO s m p q))), (16, intV n), (17, intV i)], [.row 3 1 n false (c1 fun k => bX m p n π t k (oN m n))]⟩) (fun i => i ≤ n) (fun i => n - i) ⟨0, [?_], Nat.zero_le _, ?_⟩ fun i hi => ?_
    rotate_left 1
    · refine Sub.of ?_ ?_ ?_
      repeat' (first | (refine And.intro ?_ ?_) | exact trivial | exact fun _ _ _ => hsc _ _ | (exact congrArg intV (by first | with_reducible rfl | with_reducible assumption)) | exact (rfl : AV.idsLt _ _ = true) | exact (rfl : _ = AV.ren _ (.own _)) | exact (rfl : _ = AV.ren _ (.fn _ _)) | exact (rfl : _ = AV.ren _ (.gh _)) | (exact congrArg intV (by assumption)) | (refine congrArg intV ((wr_id (by omega) (by omega)).trans (by omega))) | exact rfl | (simp only [Int.toNat_natCast, Int.toNat_zero, Nat.sub_zero, Nat.zero_add]; first | exact rfl | done) | exact all0 | exact fun h => Bool.noConfusion h | exact fun _ _ _ _ => rfl | omega)
    have hai := amF_le f i
    conv => whnf
    repeat' (first
      | (refine NilG.mk fun bn hbn => ?_; conv => whnf)
      | (refine Both.mk ?_ ?_ <;> conv => whnf)
      | exact trivial
      | (refine Br.mk (fun hb => ?_) (fun hb => ?_) <;> (first | (exfalso; revert hb; decide) | ((try simp only [BL] at hb) <;> (try simp only [DL] at hb) <;> conv => whnf)))
      | (refine And.intro ?_ ?_; (focus (first | exact id | exact rfl | exact trivial | (intro hg; first | exact hg | exact rfl | (simp; done) | (simp at hg ⊢; assumption)) | omega | decide | exact is2_c _ _ _ | exact is1_c _ _ | exact isS_c _ _ | exact isB_c _ _ | exact Nat.le_refl _ | assumption | exact mulLe (by decide) (by omega) | exact mulLe2 (by decide) (by omega) (by omega) | (intros; simp only [BL] at *; omega) | (intros; (try simp only [BL] at *); (try simp only [DL] at *); omega) | (intros; simp only [BL] at *; rw [wr_id (by omega) (by omega)]; omega) | (intros; simp_all; done) | first | exact ⟨is2_c _ _ _, (hall i (by omega)).2.1⟩ | exact ⟨is2_c _ _ _, (hall (amF f i) (by omega)).2.1⟩)); conv => whnf)
      | (refine Or.inr (And.intro rfl ?_); first | (refine congrArg intV ?_) | (refine congrArg boolV ?_) | (refine tupII ?_ ?_) | (refine tupIII ?_ ?_ ?_) | (refine tupU ?_ ?_ ?_ ?_ ?_) | exact rfl))
    · have hin : i < n := by omega
      have hb2 : f i < f (amF f i) := by rw [← hfk, ← hfk]; exact hb
      have e1 : (i : Int) = (amF f (i + 1) : Nat) := by simp only [amF]; rw [if_pos hb2]
      refine ⟨i + 1, [?_], by omega, by omega, ?_⟩
      rotate_left 1
      refine Sub.of ?_ ?_ ?_
      repeat' (first | (refine And.intro ?_ ?_) | exact trivial | exact fun _ _ _ => hsc _ _ | (exact congrArg intV (by first | with_reducible rfl | with_reducible assumption)) | exact (rfl : AV.idsLt _ _ = true) | exact (rfl : _ = AV.ren _ (.own _)) | exact (rfl : _ = AV.ren _ (.fn _ _)) | exact (rfl : _ = AV.ren _ (.gh _)) | (exact congrArg intV (by assumption)) | (refine congrArg intV ((wr_id (by omega) (by omega)).trans (by omega))) | exact rfl | (simp only [Int.toNat_natCast, Int.toNat_zero, Nat.sub_zero, Nat.zero_add]; first | exact rfl | done) | exact all0 | exact fun h => Bool.noConfusion h | exact fun _ _ _ _ => rfl | omega)
    · have hin : i < n := by omega
      have hb2 : ¬ f i < f (amF f i) := by rw [← hfk, ← hfk]; exact hb
      have e1 : ((amF f i : Nat) : Int) = (amF f (i + 1) : Nat) := by simp only [amF]; rw [if_neg hb2]
      refine ⟨i + 1, [?_], by omega, by omega, ?_⟩
      rotate_left 1
      refine Sub.of ?_ ?_ ?_
      repeat' (first | (refine And.intro ?_ ?_) | exact trivial | exact fun _ _ _ => hsc _ _ | (exact congrArg intV (by first | with_reducible rfl | with_reducible assumption)) | exact (rfl : AV.idsLt _ _ = true) | exact (rfl : _ = AV.ren _ (.own _)) | exact (rfl : _ = AV.ren _ (.fn _ _)) | exact (rfl : _ = AV.ren _ (.gh _)) | (exact congrArg intV (by assumption)) | (refine congrArg intV ((wr_id (by omega) (by omega)).trans (by omega))) | exact rfl | (simp only [Int.toNat_natCast, Int.toNat_zero, Nat.sub_zero, Nat.zero_add]; first | exact rfl | done) | exact all0 | exact fun h => Bool.noConfusion h | exact fun _ _ _ _ => rfl | omega)
    · have hin : i = n := by omega
      subst hin
      refine ⟨t + 1, [?_], by omega, by omega, ?_⟩
      rotate_left 1
      refine Sub.of ?_ ?_ ?_
      repeat' (first | (refine And.intro ?_ ?_) | exact trivial | exact fun _ _ _ => hsc _ _ | (exact congrArg intV (by first | with_reducible rfl | with_reducible assumption)) | exact (rfl : AV.idsLt _ _ = true) | exact (rfl : _ = AV.ren _ (.own _)) | exact (rfl : _ = AV.ren _ (.fn _ _)) | exact (rfl : _ = AV.ren _ (.gh _)) | (exact congrArg intV (by assumption)) | (refine congrArg intV ((wr_id (by omega) (by omega)).trans (by omega))) | exact rfl | (simp only [Int.toNat_natCast, Int.toNat_zero, Nat.sub_zero, Nat.zero_add]; first | exact rfl | done) | exact all0 | exact fun h => Bool.noConfusion h | exact fun _ _ _ _ => rfl | omega)
      intro a ha b hb1
      obtain rfl : b = 0 := by omega
      have hbo := bX_b hO hs hB o1
      show (if a = amF f i then iL (IntKind.i64.wrap (bX m p i π t (amF f i) (oN m i) + 1)) else iL (bX m p i π t a (oN m i))) = iL (bX m p i π ((t + 1 : Nat) : Int) a (oN m i))
      rw [Int.natCast_succ, hst a, ham, wr_id (by omega) (by omega)]
      by_cases h : a = own m i (π B)
      · rw [if_pos h, if_pos h.symm, h]
      · rw [if_neg h, if_neg (fun e => h e.symm), Int.add_zero]
  · have htT : (t : Int) = T := by omega
    rw [htT]
    exact .inr ⟨rfl, rfl⟩
end Go.Proofs.Ytdakikgebfphmaa
