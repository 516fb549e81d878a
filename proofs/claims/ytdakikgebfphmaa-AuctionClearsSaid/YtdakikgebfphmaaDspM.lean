/-
  dispatch: Price.
-/
import Derived.Test.YtdakikgebfphmaaDspL
namespace Go.Proofs.Ytdakikgebfphmaa
open Go.RowKit

theorem dckE_zero {n : Nat} {s : Nat → ByteArray} {m : Nat → Nat} {p q : Nat → Nat → Int} {T : Int} (h0 : dckE n s m p q T = 0) : offsE n s m p q = 0 ∧ 0 ≤ T ∧ T ≤ S (oS m p) n := by
  unfold dckE at h0
  split at h0
  · rename_i hh; exact absurd h0 hh
  · split at h0
    · cases h0
    · split at h0
      · cases h0
      · omega
theorem bX_s {m : Nat → Nat} {p q : Nat → Nat → Int} {n : Nat} {T : Int} {π : Nat → Nat} {B : Nat} (hs : Blks2 m p q n π) (hB : bAt m p n π T B) {k : Nat} (hk : k < n) : 0 ≤ bX m p n π T k (oN m n) ∧ bX m p n π T k (oN m n) ≤ S (p k) (m k) := by
  obtain ⟨J, r, f1, f2, _⟩ := hs.fill hB hk
  have hp := hs.pos k hk
  have h1 := S_mono (p := p k) (i := 0) (j := J) (fun j hj => by have := hp j (by have := f1.le; omega); omega) (Nat.zero_le _)
  have h0 : S (p k) 0 = 0 := rfl
  have h2 := f1.nn
  rw [f2]
  rcases Nat.eq_or_lt_of_le f1.le with e | hlt
  · have h5 := f1.end' e
    rw [e] at h1 ⊢
    omega
  · have h3 := S_step hp hlt (Nat.le_refl _)
    have h4 := f1.lt hlt
    omega

def priceK (n : Nat) (s : Nat → ByteArray) (m : Nat → Nat) (p q : Nat → Nat → Int) (T : Int) (obs : List OB) (v : AV) : Prop :=
  obs = [] ∧ ((dckE n s m p q T ≠ 0 ∧ v = .tup [intV 0, intV 0, intV (dckE n s m p q T)]) ∨
    (dckE n s m p q T = 0 ∧ ∃ π, Sorted (bSz m q n) π (oN m n) ∧ v = .tup [intV (loF m p q (fun k => bX m p n π T k (oN m n)) n), intV (upF m p q (fun k => bX m p n π T k (oN m n)) n), intV 0]))
theorem dspPrice (s : Nat → ByteArray) (m : Nat → Nat) (p q : Nat → Nat → Int) (n : Nat) (T : Int) (hn : n ≤ maxLen) (hk : ∀ k, k < n → (s k).size ≤ maxLen ∧ m k ≤ maxLen) :
    Fn Try.prog 50 [.c (.sl 2 n (cO s m p q)), intV T] (priceK n s m p q T) := by
  refine fn_of_wpx (O := lex) tab_ok gamQ4_ok mixed Try.func50 (by kernel_rfl) rfl rfl rfl (by simp [Try.ntmps50]) (by kernel_rfl) ?_
  have hn' : n ≤ 9223372036854775807 := hn
  conv => whnf
  repeat' (first
    | (refine NilG.mk fun bn hbn => ?_; conv => whnf)
    | (refine Both.mk ?_ ?_ <;> conv => whnf)
    | exact trivial
    | (refine Br.mk (fun hb => ?_) (fun hb => ?_) <;> (first | (exfalso; revert hb; decide) | ((try simp only [BL] at hb) <;> (try simp only [DL] at hb) <;> conv => whnf)))
    | (refine And.intro ?_ ?_; (focus (first | exact id | exact rfl | exact trivial | (intro hg; first | exact hg | exact rfl | (simp; done) | (simp at hg ⊢; assumption)) | omega | decide | exact is2_c _ _ _ | exact is1_c _ _ | exact isS_c _ _ | exact isB_c _ _ | exact Nat.le_refl _ | assumption | exact mulLe (by decide) (by omega) | exact mulLe2 (by decide) (by omega) (by omega) | (intros; simp only [BL] at *; omega) | (intros; (try simp only [BL] at *); (try simp only [DL] at *); omega) | (intros; simp only [BL] at *; rw [wr_id (by omega) (by omega)]; omega) | (intros; simp_all; done))); conv => whnf)
    | (refine Or.inr (And.intro rfl ?_); first | (refine congrArg intV ?_) | (refine congrArg boolV ?_) | (refine tupII ?_ ?_) | (refine tupIII ?_ ?_ ?_) | (refine tupU ?_ ?_ ?_ ?_ ?_) | exact rfl))
  refine CallG.mk (Fn.mono (dspBest s m p q n T hn hk) ?_)
  rintro obs r ⟨rfl, ⟨hE, rfl⟩ | ⟨hE, π, hq, rfl⟩⟩
  · conv => whnf
    repeat' (first
      | (refine NilG.mk fun bn hbn => ?_; conv => whnf)
      | (refine Both.mk ?_ ?_ <;> conv => whnf)
      | exact trivial
      | (refine Br.mk (fun hb => ?_) (fun hb => ?_) <;> (first | (exfalso; revert hb; decide) | ((try simp only [BL] at hb) <;> (try simp only [DL] at hb) <;> conv => whnf)))
      | (refine And.intro ?_ ?_; (focus (first | exact id | exact rfl | exact trivial | (intro hg; first | exact hg | exact rfl | (simp; done) | (simp at hg ⊢; assumption)) | omega | decide | exact is2_c _ _ _ | exact is1_c _ _ | exact isS_c _ _ | exact isB_c _ _ | exact Nat.le_refl _ | assumption | exact mulLe (by decide) (by omega) | exact mulLe2 (by decide) (by omega) (by omega) | (intros; simp only [BL] at *; omega) | (intros; (try simp only [BL] at *); (try simp only [DL] at *); omega) | (intros; simp only [BL] at *; rw [wr_id (by omega) (by omega)]; omega) | (intros; simp_all; done))); conv => whnf)
      | (refine Or.inr (And.intro rfl ?_); first | (refine congrArg intV ?_) | (refine congrArg boolV ?_) | (refine tupII ?_ ?_) | (refine tupIII ?_ ?_ ?_) | (refine tupU ?_ ?_ ?_ ?_ ?_) | exact rfl))
    · exact .inr ⟨rfl, .inl ⟨hE, rfl⟩⟩
    · exact absurd hb hE
  · have hO : offsE n s m p q = 0 ∧ 0 ≤ T ∧ T ≤ S (oS m p) n := dckE_zero hE
    obtain ⟨hO, hT0, hT1⟩ := hO
    obtain ⟨hn10, hall⟩ := offsE_zero hO
    have hs := blks2_of hO hq
    obtain ⟨B, hB⟩ := hs.at hT0 hT1
    generalize hX : (fun k => bX m p n π T k (oN m n)) = X
    have hXk : ∀ k, k < n → 0 ≤ X k ∧ X k ≤ S (p k) (m k) := fun k hk => by
      rw [← hX]
      exact bX_s hs hB hk
    have hx : ∀ k, k < n → offXE (s k) (m k) (p k) (q k) (X k) = 0 := fun k hk => by
      have := hXk k hk
      unfold offXE
      rw [if_neg (fun h => h (hall k hk).1), if_neg (by omega)]
    conv => whnf
    repeat' (first
      | (refine NilG.mk fun bn hbn => ?_; conv => whnf)
      | (refine Both.mk ?_ ?_ <;> conv => whnf)
      | exact trivial
      | (refine Br.mk (fun hb => ?_) (fun hb => ?_) <;> (first | (exfalso; revert hb; decide) | ((try simp only [BL] at hb) <;> (try simp only [DL] at hb) <;> conv => whnf)))
      | (refine And.intro ?_ ?_; (focus (first | exact id | exact rfl | exact trivial | (intro hg; first | exact hg | exact rfl | (simp; done) | (simp at hg ⊢; assumption)) | omega | decide | exact is2_c _ _ _ | exact is1_c _ _ | exact isS_c _ _ | exact isB_c _ _ | exact Nat.le_refl _ | assumption | exact mulLe (by decide) (by omega) | exact mulLe2 (by decide) (by omega) (by omega) | (intros; simp only [BL] at *; omega) | (intros; (try simp only [BL] at *); (try simp only [DL] at *); omega) | (intros; simp only [BL] at *; rw [wr_id (by omega) (by omega)]; omega) | (intros; simp_all; done))); conv => whnf)
      | (refine Or.inr (And.intro rfl ?_); first | (refine congrArg intV ?_) | (refine congrArg boolV ?_) | (refine tupII ?_ ?_) | (refine tupIII ?_ ?_ ?_) | (refine tupU ?_ ?_ ?_ ?_ ?_) | exact rfl))
    refine sem_loop tab_ok gamQ4_ok mixed (by kernel_rfl) (O := lex) (fun i : Nat => ⟨[(7, .c (.sl 1 n (c1 X))), (10, intV (loF m p q X i)), (11, intV (upF m p q X i)), (27, .c (.sl 2 n (cO s m p q))), (28, intV n), (29, intV i)], []⟩) (fun i => i ≤ n) (fun i => n - i) ⟨0, [], Nat.zero_le _, ?_⟩ fun i hi => ?_
    · refine Sub.of ?_ ?_ ?_
      repeat' (first | (refine And.intro ?_ ?_) | exact trivial | exact fun _ _ _ => hsc _ _ | (exact congrArg intV (by first | with_reducible rfl | with_reducible assumption)) | exact (rfl : AV.idsLt _ _ = true) | exact (rfl : _ = AV.ren _ (.own _)) | exact (rfl : _ = AV.ren _ (.fn _ _)) | exact (rfl : _ = AV.ren _ (.gh _)) | (exact congrArg intV (by assumption)) | (refine congrArg intV ((wr_id (by omega) (by omega)).trans (by omega))) | exact rfl | (simp only [Int.toNat_natCast, Int.toNat_zero, Nat.sub_zero, Nat.zero_add]; first | exact rfl | done) | exact all0 | exact fun h => Bool.noConfusion h | exact fun _ _ _ _ => rfl | omega)
    have hxi := hx i
    conv => whnf
    repeat' (first
      | (refine NilG.mk fun bn hbn => ?_; conv => whnf)
      | (refine Both.mk ?_ ?_ <;> conv => whnf)
      | exact trivial
      | (refine Br.mk (fun hb => ?_) (fun hb => ?_) <;> (first | (exfalso; revert hb; decide) | ((try simp only [BL] at hb) <;> (try simp only [DL] at hb) <;> conv => whnf)))
      | (refine And.intro ?_ ?_; (focus (first | exact id | exact rfl | exact trivial | (intro hg; first | exact hg | exact rfl | (simp; done) | (simp at hg ⊢; assumption)) | omega | decide | exact is2_c _ _ _ | exact is1_c _ _ | exact isS_c _ _ | exact isB_c _ _ | exact Nat.le_refl _ | assumption | exact mulLe (by decide) (by omega) | exact mulLe2 (by decide) (by omega) (by omega) | (intros; simp only [BL] at *; omega) | (intros; (try simp only [BL] at *); (try simp only [DL] at *); omega) | (intros; simp only [BL] at *; rw [wr_id (by omega) (by omega)]; omega) | (intros; simp_all; done) | exact ⟨is2_c _ _ _, (hk i (by omega)).1, (hk i (by omega)).2⟩)); conv => whnf)
      | (refine Or.inr (And.intro rfl ?_); first | (refine congrArg intV ?_) | (refine congrArg boolV ?_) | (refine tupII ?_ ?_) | (refine tupIII ?_ ?_ ?_) | (refine tupU ?_ ?_ ?_ ?_ ?_) | exact rfl))
    · have hin : i < n := by omega
      have hx0 := hx i hin
      have e1 : max (loF m p q X i) (if offXE (s i) (m i) (p i) (q i) (X i) = 0 then (if 0 < X i then U (p i) (q i) (m i) (X i - 1) else -2000000) else 0) = loF m p q X (i + 1) := by rw [if_pos hx0]; rfl
      have e2 : min (upF m p q X i) (if offXE (s i) (m i) (p i) (q i) (X i) = 0 then U (p i) (q i) (m i) (X i) else 0) = upF m p q X (i + 1) := by rw [if_pos hx0]; rfl
      refine ⟨i + 1, [], by omega, by omega, ?_⟩
      refine Sub.of ?_ ?_ ?_
      repeat' (first | (refine And.intro ?_ ?_) | exact trivial | exact fun _ _ _ => hsc _ _ | (exact congrArg intV (by first | with_reducible rfl | with_reducible assumption)) | exact (rfl : AV.idsLt _ _ = true) | exact (rfl : _ = AV.ren _ (.own _)) | exact (rfl : _ = AV.ren _ (.fn _ _)) | exact (rfl : _ = AV.ren _ (.gh _)) | (exact congrArg intV (by assumption)) | (refine congrArg intV ((wr_id (by omega) (by omega)).trans (by omega))) | exact rfl | (simp only [Int.toNat_natCast, Int.toNat_zero, Nat.sub_zero, Nat.zero_add]; first | exact rfl | done) | exact all0 | exact fun h => Bool.noConfusion h | exact fun _ _ _ _ => rfl | omega)
    · have hin : i = n := by omega
      subst hin
      exact .inr ⟨rfl, .inr ⟨hE, π, hq, by rw [hX]; rfl⟩⟩
end Go.Proofs.Ytdakikgebfphmaa
