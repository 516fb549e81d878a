/-
  The law HoursSpreads: the walk, and the row.
-/
import Derived.Test.YtdakikgebfphmaaHrs2
namespace Go.Proofs.Ytdakikgebfphmaa
open Go.RowKit

theorem hSame (n m : Nat) (x y : Nat → Int) (h : n ≤ 9000000 ∧ m = n ∧ ∀ i, i < n → x i = y i) : Fn1 Try.prog 34 [.c (.sl 1 n (c1 x)), .c (.sl 1 m (c1 y))] (boolV true) := by
  refine fn_of_wpx (O := lex) tab_ok gamZ_ok mixed Try.func34 (by kernel_rfl) rfl rfl rfl (by simp [Try.ntmps34]) (by kernel_rfl) ?_
  obtain ⟨hn, rfl, he⟩ := h
  conv => whnf
  repeat' (first
    | (refine NilG.mk fun bn hbn => ?_; conv => whnf)
    | (refine Both.mk ?_ ?_ <;> conv => whnf)
    | exact trivial
    | (refine Br.mk (fun hb => ?_) (fun hb => ?_) <;> (first | (exfalso; revert hb; decide) | ((try simp only [BL] at hb) <;> (try simp only [DL] at hb) <;> conv => whnf)))
    | (refine And.intro ?_ ?_; (focus (first | exact id | exact rfl | exact trivial | (intro hg; first | exact hg | exact rfl | (simp; done) | (simp at hg ⊢; assumption)) | omega | decide | exact is2_c _ _ _ | exact is1_c _ _ | exact isS_c _ _ | exact isB_c _ _ | exact Nat.le_refl _ | assumption | exact mulLe (by decide) (by omega) | exact mulLe2 (by decide) (by omega) (by omega) | (intros; simp only [BL] at *; omega) | (intros; (try simp only [BL] at *); (try simp only [DL] at *); omega) | (intros; simp only [BL] at *; rw [wr_id (by omega) (by omega)]; omega) | (intros; simp_all; done))); conv => whnf)
    | (refine Or.inr (And.intro rfl ?_); first | (refine congrArg intV ?_) | (refine congrArg boolV ?_) | (refine tupII ?_ ?_) | (refine tupIII ?_ ?_ ?_) | (refine tupU ?_ ?_ ?_ ?_ ?_) | exact rfl))
  · exact absurd trivial hb
  refine sem_loop tab_ok gamZ_ok mixed (by kernel_rfl) (O := lex) (fun i : Nat => ⟨[(13, intV i), (12, intV m), (0, .c (.sl 1 m (c1 x))), (1, .c (.sl 1 m (c1 y)))], []⟩) (fun i => i ≤ m) (fun i => m - i) ⟨0, [], Nat.zero_le _, ?_⟩ fun i hi => ?_
  · refine Sub.of ?_ ?_ ?_
    repeat' (first | (refine And.intro ?_ ?_) | exact trivial | exact fun _ _ _ => hsc _ _ | (exact congrArg intV (by first | with_reducible rfl | with_reducible assumption)) | exact (rfl : AV.idsLt _ _ = true) | exact (rfl : _ = AV.ren _ (.own _)) | exact (rfl : _ = AV.ren _ (.fn _ _)) | exact (rfl : _ = AV.ren _ (.gh _)) | (exact congrArg intV (by assumption)) | (refine congrArg intV ((wr_id (by omega) (by omega)).trans (by omega))) | exact rfl | (simp only [Int.toNat_natCast, Int.toNat_zero, Nat.sub_zero, Nat.zero_add]; first | exact rfl | done) | exact all0 | exact fun h => Bool.noConfusion h | exact fun _ _ _ _ => rfl | omega)
  conv => whnf
  repeat' (first
    | (refine NilG.mk fun bn hbn => ?_; conv => whnf)
    | (refine Both.mk ?_ ?_ <;> conv => whnf)
    | exact trivial
    | (refine Br.mk (fun hb => ?_) (fun hb => ?_) <;> (first | (exfalso; revert hb; decide) | ((try simp only [BL] at hb) <;> (try simp only [DL] at hb) <;> conv => whnf)))
    | (refine And.intro ?_ ?_; (focus (first | exact id | exact rfl | exact trivial | (intro hg; first | exact hg | exact rfl | (simp; done) | (simp at hg ⊢; assumption)) | omega | decide | exact is2_c _ _ _ | exact is1_c _ _ | exact isS_c _ _ | exact isB_c _ _ | exact Nat.le_refl _ | assumption | exact mulLe (by decide) (by omega) | exact mulLe2 (by decide) (by omega) (by omega) | (intros; simp only [BL] at *; omega) | (intros; (try simp only [BL] at *); (try simp only [DL] at *); omega) | (intros; simp only [BL] at *; rw [wr_id (by omega) (by omega)]; omega) | (intros; simp_all; done))); conv => whnf)
    | (refine Or.inr (And.intro rfl ?_); first | (refine congrArg intV ?_) | (refine congrArg boolV ?_) | (refine tupII ?_ ?_) | (refine tupIII ?_ ?_ ?_) | (refine tupU ?_ ?_ ?_ ?_ ?_) | exact rfl))
  · exact absurd (he i (by omega)) hb
  · refine ⟨i + 1, [], by omega, by omega, ?_⟩
    refine Sub.of ?_ ?_ ?_
    repeat' (first | (refine And.intro ?_ ?_) | exact trivial | exact fun _ _ _ => hsc _ _ | (exact congrArg intV (by first | with_reducible rfl | with_reducible assumption)) | exact (rfl : AV.idsLt _ _ = true) | exact (rfl : _ = AV.ren _ (.own _)) | exact (rfl : _ = AV.ren _ (.fn _ _)) | exact (rfl : _ = AV.ren _ (.gh _)) | (exact congrArg intV (by assumption)) | (refine congrArg intV ((wr_id (by omega) (by omega)).trans (by omega))) | exact rfl | (simp only [Int.toNat_natCast, Int.toNat_zero, Nat.sub_zero, Nat.zero_add]; first | exact rfl | done) | exact all0 | exact fun h => Bool.noConfusion h | exact fun _ _ _ _ => rfl | omega)
  · rfl
def sHI : List AV → Sd × AV
  | [.c (.sl 1 n f), .c (.sl 1 m g)] => (.p (is1 n f ∧ is1 m g ∧ n ≤ 9000000 ∧ m = n ∧ ∀ i, i < n → d0 f i = d0 g i), boolV true)
  | _ => (.p False, .top)
def gamHL : Gam := fun f => match f with
  | 36 => some sHc
  | 34 => some sHI
  | 22 => some (s3 inB)
  | _ => none
theorem gamHL_ok : GOk Try.prog gamHL := fun f g h => by
  unfold gamHL at h
  split at h
  · injection h with h; subst h
    intro args hs _
    unfold sHc at hs ⊢
    split at hs
    · exact (hCheck _ _ hs.2).le (Le.cons (Le1.sl hs.1) Le.nil)
    · exact hs.elim
  · injection h with h; subst h
    intro args hs _
    unfold sHI at hs ⊢
    split at hs
    · exact (hSame _ _ _ _ hs.2.2).le (Le.cons (Le1.sl hs.1) (Le.cons (Le1.sl hs.2.1) Le.nil))
    · exact hs.elim
  · injection h with h; subst h; exact s3_ok in3
  · cases h

theorem hlTup {bs' bs : List AV} (h : Le bs' bs) : Le1 (.tup bs') (.tup bs) := fun σ I w v hd => by
  simp only [Den] at hd ⊢
  obtain ⟨us, e, h1⟩ := hd
  exact ⟨us, e, h _ _ _ _ h1⟩
theorem hlNil {sz : Nat} {f : Nat → Nat → L} : Le1 (.c (.v (.slice none 0 0))) (.c (.sl sz 0 f)) := fun σ I w v hd => by
  simp only [Den, L.rd] at hd ⊢
  obtain ⟨rfl, _⟩ := hd
  exact ⟨none, 0, rfl, Nat.le_refl _, Nat.zero_le _, fun h => absurd h (Nat.lt_irrefl 0)⟩
/-- numbers and an error: the numbers are k and f when there is no error, none otherwise -/
def nmE (e : Int) (k : Nat) (f : Nat → Int) (obs : List OB) (r : AV) : Prop :=
  obs = [] ∧ ∃ K g, r = .tup [.c (.sl 1 K (c1 g)), intV e] ∧ (e ≠ 0 → K = 0) ∧ (e = 0 → K = k ∧ g = f)
theorem spreadR (T : Int) (n : Nat) (w : Nat → Int) (hn : n ≤ maxLen) : Fn Try.prog 33 [intV T, .c (.sl 1 n (c1 w))] (nmE (spE T n w) n (spF T n w)) :=
  (hSpread T n w hn).res fun obs r ⟨h1, h2⟩ => by
    rcases h2 with ⟨h2, rfl⟩ | ⟨h2, rfl⟩
    · exact ⟨_, ⟨h1, 0, spF T n w, rfl, fun _ => rfl, fun h => absurd h h2⟩, hlTup (Le.cons hlNil (Le.cons (Le1.refl _) Le.nil))⟩
    · exact ⟨_, ⟨h1, n, _, rfl, fun h => absurd h2 h, fun _ => ⟨rfl, rfl⟩⟩, by rw [h2]; exact Le1.refl _⟩
theorem sumsR (n : Nat) (w : Nat → Int) (size : Int) (hn : n ≤ maxLen) : Fn Try.prog 35 [.c (.sl 1 n (c1 w)), intV size] (nmE (suE n w size) (smN size n) (smF size w n)) :=
  (hSums n w size hn).res fun obs r ⟨h1, h2⟩ => by
    rcases h2 with ⟨h2, rfl⟩ | ⟨h2, rfl⟩
    · exact ⟨_, ⟨h1, 0, smF size w n, rfl, fun _ => rfl, fun h => absurd h h2⟩, hlTup (Le.cons hlNil (Le.cons (Le1.refl _) Le.nil))⟩
    · exact ⟨_, ⟨h1, _, _, rfl, fun h => absurd h2 h, fun _ => ⟨rfl, rfl⟩⟩, by rw [h2]; exact Le1.refl _⟩
theorem fidx_step (b : Nat → Bool) (i : Nat) : decide (fidx b (i + 1) ≥ 0) = (decide (fidx b i ≥ 0) || b i) := by
  by_cases h : fidx b i ≥ 0
  · have h1 : ¬ ∀ k, k < i → b k = false := fun hk => by rw [fidx_none hk] at h; omega
    have h2 : fidx b (i + 1) ≥ 0 := by
      by_cases h3 : fidx b (i + 1) ≥ 0
      · exact h3
      · exact absurd (fun k hk => fidx_neg h3 k (by omega)) h1
    simp [h, h2]
  · have h1 := fidx_neg h
    cases hb : b i with
    | true => rw [fidx_at h1 hb (Nat.lt_succ_self i)]; simp
    | false =>
      rw [fidx_none fun k hk => by rcases Nat.lt_succ_iff_lt_or_eq.1 hk with hlt | rfl; exact h1 k hlt; exact hb]
      simp [h]
theorem one_E : spE 10 3 (fun _ => 1) = 0 := by decide
theorem one_F : ∀ k, k < 3 → spF 10 3 (fun _ => 1) k = [4, 3, 3].getD k 0 := by decide
def rnH (size : Int) (i : Nat) : Nat := if inB size 1 24 = true then smN size i else 0
def erH (w : Nat → Int) (i : Nat) : Int := if fidx (fun k => badW (w k)) i ≥ 0 then 4 else 0
theorem erH_step (w : Nat → Int) (i : Nat) : erH w (i + 1) = if erH w i = 0 ∧ badW (w i) = true then 4 else erH w i := by
  have h := fidx_step (fun k => badW (w k)) i
  unfold erH
  by_cases h1 : fidx (fun k => badW (w k)) i ≥ 0
  · have h2 : fidx (fun k => badW (w k)) (i + 1) ≥ 0 := by simpa [h1] using h
    rw [if_pos h1, if_pos h2]
    simp
  · rw [if_neg h1]
    cases hb : badW (w i) with
    | true => have h2 : fidx (fun k => badW (w k)) (i + 1) ≥ 0 := by simpa [h1, hb] using h
              rw [if_pos h2]; simp
    | false => have h2 : ¬ fidx (fun k => badW (w k)) (i + 1) ≥ 0 := by simpa [h1, hb] using h
               rw [if_neg h2]; simp

set_option maxHeartbeats 2000000 in
theorem hsLaw (T : Int) (n : Nat) (w : Nat → Int) (size : Int) (hn : n ≤ maxLen) : Fn1 Try.prog 6 [intV T, .c (.sl 1 n (c1 w)), intV size] (boolV true) := by
  refine fn_of_wpx (O := lex) tab_ok gamHL_ok mixed Try.func6 (by kernel_rfl) rfl rfl rfl (by simp [Try.ntmps6]) (by kernel_rfl) ?_
  have hn' : n ≤ 9223372036854775807 := hn
  conv => whnf
  repeat' (first
    | (refine NilG.mk fun bn hbn => ?_; conv => whnf)
    | (refine Both.mk ?_ ?_ <;> conv => whnf)
    | exact trivial
    | (refine Br.mk (fun hb => ?_) (fun hb => ?_) <;> (first | (exfalso; revert hb; decide) | ((try simp only [BL] at hb) <;> (try simp only [DL] at hb) <;> conv => whnf)))
    | (refine And.intro ?_ ?_; (focus (first | exact id | exact rfl | exact trivial | (intro hg; first | exact hg | exact rfl | (simp; done) | (simp at hg ⊢; assumption)) | omega | decide | exact is2_c _ _ _ | exact is1_c _ _ | exact isS_c _ _ | exact isB_c _ _ | exact Nat.le_refl _ | assumption | exact mulLe (by decide) (by omega) | exact mulLe2 (by decide) (by omega) (by omega) | (intros; simp only [BL] at *; omega) | (intros; (try simp only [BL] at *); (try simp only [DL] at *); omega) | (intros; simp only [BL] at *; rw [wr_id (by omega) (by omega)]; omega) | (intros; simp_all; done))); conv => whnf)
    | (refine Or.inr (And.intro rfl ?_); first | (refine congrArg intV ?_) | (refine congrArg boolV ?_) | (refine tupII ?_ ?_) | (refine tupIII ?_ ?_ ?_) | (refine tupU ?_ ?_ ?_ ?_ ?_) | exact rfl))
  refine CallG.mk (Fn.mono ((spreadR 10 3 (fun _ => 1) (by decide)).le (Le.cons (Le1.refl _) (Le.cons (Le1.sl fun k hk j hj => ?_) Le.nil))) ?_)
  · match k, j, hk, hj with
    | 0, 0, _, _ => rfl
    | 1, 0, _, _ => rfl
    | 2, 0, _, _ => rfl
  rintro obs r ⟨rfl, K, g, rfl, _, hg1⟩
  obtain ⟨rfl, rfl⟩ := hg1 one_E
  rw [one_E]
  conv => whnf
  repeat' (first
    | (refine NilG.mk fun bn hbn => ?_; conv => whnf)
    | (refine Both.mk ?_ ?_ <;> conv => whnf)
    | exact trivial
    | (refine Br.mk (fun hb => ?_) (fun hb => ?_) <;> (first | (exfalso; revert hb; decide) | ((try simp only [BL] at hb) <;> (try simp only [DL] at hb) <;> conv => whnf)))
    | (refine And.intro ?_ ?_; (focus (first | exact id | exact rfl | exact trivial | (intro hg; first | exact hg | exact rfl | (simp; done) | (simp at hg ⊢; assumption)) | omega | decide | exact is2_c _ _ _ | exact is1_c _ _ | exact isS_c _ _ | exact isB_c _ _ | exact Nat.le_refl _ | assumption | exact mulLe (by decide) (by omega) | exact mulLe2 (by decide) (by omega) (by omega) | (intros; simp only [BL] at *; omega) | (intros; (try simp only [BL] at *); (try simp only [DL] at *); omega) | (intros; simp only [BL] at *; rw [wr_id (by omega) (by omega)]; omega) | (intros; simp_all; done))); conv => whnf)
    | (refine Or.inr (And.intro rfl ?_); first | (refine congrArg intV ?_) | (refine congrArg boolV ?_) | (refine tupII ?_ ?_) | (refine tupIII ?_ ?_ ?_) | (refine tupU ?_ ?_ ?_ ?_ ?_) | exact rfl))
  refine And.intro (fun _ => ?_) (fun hg => absurd hg (by decide))
  conv => whnf
  repeat' (first
    | (refine NilG.mk fun bn hbn => ?_; conv => whnf)
    | (refine Both.mk ?_ ?_ <;> conv => whnf)
    | exact trivial
    | (refine Br.mk (fun hb => ?_) (fun hb => ?_) <;> (first | (exfalso; revert hb; decide) | ((try simp only [BL] at hb) <;> (try simp only [DL] at hb) <;> conv => whnf)))
    | (refine And.intro ?_ ?_; (focus (first | exact id | exact rfl | exact trivial | (intro hg; first | exact hg | exact rfl | (simp; done) | (simp at hg ⊢; assumption)) | omega | decide | exact is2_c _ _ _ | exact is1_c _ _ | exact isS_c _ _ | exact isB_c _ _ | exact Nat.le_refl _ | assumption | exact mulLe (by decide) (by omega) | exact mulLe2 (by decide) (by omega) (by omega) | (intros; simp only [BL] at *; omega) | (intros; (try simp only [BL] at *); (try simp only [DL] at *); omega) | (intros; simp only [BL] at *; rw [wr_id (by omega) (by omega)]; omega) | (intros; simp_all; done))); conv => whnf)
    | (refine Or.inr (And.intro rfl ?_); first | (refine congrArg intV ?_) | (refine congrArg boolV ?_) | (refine tupII ?_ ?_) | (refine tupIII ?_ ?_ ?_) | (refine tupU ?_ ?_ ?_ ?_ ?_) | exact rfl))
  refine And.intro (fun _ => ⟨is1_c _ _, fun k hk j hj => ?_, by decide, rfl, fun i hi => ?_⟩) ?_
  · match k, j, hk, hj with
    | 0, 0, _, _ => rfl
    | 1, 0, _, _ => rfl
    | 2, 0, _, _ => rfl
  · match i, hi with
    | 0, hi => exact one_F 0 hi
    | 1, hi => exact one_F 1 hi
    | 2, hi => exact one_F 2 hi
  conv => whnf
  repeat' (first
    | (refine NilG.mk fun bn hbn => ?_; conv => whnf)
    | (refine Both.mk ?_ ?_ <;> conv => whnf)
    | exact trivial
    | (refine Br.mk (fun hb => ?_) (fun hb => ?_) <;> (first | (exfalso; revert hb; decide) | ((try simp only [BL] at hb) <;> (try simp only [DL] at hb) <;> conv => whnf)))
    | (refine And.intro ?_ ?_; (focus (first | exact id | exact rfl | exact trivial | (intro hg; first | exact hg | exact rfl | (simp; done) | (simp at hg ⊢; assumption)) | omega | decide | exact is2_c _ _ _ | exact is1_c _ _ | exact isS_c _ _ | exact isB_c _ _ | exact Nat.le_refl _ | assumption | exact mulLe (by decide) (by omega) | exact mulLe2 (by decide) (by omega) (by omega) | (intros; simp only [BL] at *; omega) | (intros; (try simp only [BL] at *); (try simp only [DL] at *); omega) | (intros; simp only [BL] at *; rw [wr_id (by omega) (by omega)]; omega) | (intros; simp_all; done))); conv => whnf)
    | (refine Or.inr (And.intro rfl ?_); first | (refine congrArg intV ?_) | (refine congrArg boolV ?_) | (refine tupII ?_ ?_) | (refine tupIII ?_ ?_ ?_) | (refine tupU ?_ ?_ ?_ ?_ ?_) | exact rfl))
  refine CallG.mk (Fn.mono (spreadR T n w hn) ?_)
  rintro obs r ⟨rfl, A, a, rfl, hA0, hA1⟩
  conv => whnf
  repeat' (first
    | (refine NilG.mk fun bn hbn => ?_; conv => whnf)
    | (refine Both.mk ?_ ?_ <;> conv => whnf)
    | exact trivial
    | (refine Br.mk (fun hb => ?_) (fun hb => ?_) <;> (first | (exfalso; revert hb; decide) | ((try simp only [BL] at hb) <;> (try simp only [DL] at hb) <;> conv => whnf)))
    | (refine And.intro ?_ ?_; (focus (first | exact id | exact rfl | exact trivial | (intro hg; first | exact hg | exact rfl | (simp; done) | (simp at hg ⊢; assumption)) | omega | decide | exact is2_c _ _ _ | exact is1_c _ _ | exact isS_c _ _ | exact isB_c _ _ | exact Nat.le_refl _ | assumption | exact mulLe (by decide) (by omega) | exact mulLe2 (by decide) (by omega) (by omega) | (intros; simp only [BL] at *; omega) | (intros; (try simp only [BL] at *); (try simp only [DL] at *); omega) | (intros; simp only [BL] at *; rw [wr_id (by omega) (by omega)]; omega) | (intros; simp_all; done))); conv => whnf)
    | (refine Or.inr (And.intro rfl ?_); first | (refine congrArg intV ?_) | (refine congrArg boolV ?_) | (refine tupII ?_ ?_) | (refine tupIII ?_ ?_ ?_) | (refine tupU ?_ ?_ ?_ ?_ ?_) | exact rfl))
  refine CallG.mk (Fn.mono (sumsR n w size hn) ?_)
  rintro obs r ⟨rfl, B, b, rfl, hB0, hB1⟩
  conv => whnf
  repeat' (first
    | (refine NilG.mk fun bn hbn => ?_; conv => whnf)
    | (refine Both.mk ?_ ?_ <;> conv => whnf)
    | exact trivial
    | (refine Br.mk (fun hb => ?_) (fun hb => ?_) <;> (first | (exfalso; revert hb; decide) | ((try simp only [BL] at hb) <;> (try simp only [DL] at hb) <;> conv => whnf)))
    | (refine And.intro ?_ ?_; (focus (first | exact id | exact rfl | exact trivial | (intro hg; first | exact hg | exact rfl | (simp; done) | (simp at hg ⊢; assumption)) | omega | decide | exact is2_c _ _ _ | exact is1_c _ _ | exact isS_c _ _ | exact isB_c _ _ | exact Nat.le_refl _ | assumption | exact mulLe (by decide) (by omega) | exact mulLe2 (by decide) (by omega) (by omega) | (intros; simp only [BL] at *; omega) | (intros; (try simp only [BL] at *); (try simp only [DL] at *); omega) | (intros; simp only [BL] at *; rw [wr_id (by omega) (by omega)]; omega) | (intros; simp_all; done))); conv => whnf)
    | (refine Or.inr (And.intro rfl ?_); first | (refine congrArg intV ?_) | (refine congrArg boolV ?_) | (refine tupII ?_ ?_) | (refine tupIII ?_ ?_ ?_) | (refine tupU ?_ ?_ ?_ ?_ ?_) | exact rfl))
  · have hE : hcE n w = 2 := if_pos (by omega)
    have hsE : spE T n w = 2 := by unfold spE; rw [if_pos (by rw [hE]; decide), hE]
    have huE : suE n w size = 2 := by unfold suE; rw [if_pos (by rw [hE]; decide), hE]
    obtain rfl : A = 0 := hA0 (by rw [hsE]; decide)
    obtain rfl : B = 0 := hB0 (by rw [huE]; decide)
    clear hb hA0 hA1 hB0 hB1
    rw [hsE, huE]
    refine sem_loop tab_ok gamHL_ok mixed (by kernel_rfl) (O := lex) (fun i : Nat => ⟨[(0, intV T), (1, .c (.sl 1 n (c1 w))), (2, intV size), (9, .c (.sl 1 0 (c1 a))), (10, intV 2), (11, .c (.sl 1 0 (c1 b))), (12, intV 2), (13, intV 2), (14, intV 0), (15, boolV false), (60, .c (.sl 1 n (c1 w))), (61, intV n), (62, intV i)], []⟩) (fun i => i ≤ n) (fun i => n - i) ⟨0, [], Nat.zero_le _, ?_⟩ fun i hi => ?_
    · refine Sub.of ?_ ?_ ?_
      repeat' (first | (refine And.intro ?_ ?_) | exact trivial | exact fun _ _ _ => hsc _ _ | (exact congrArg intV (by first | with_reducible rfl | with_reducible assumption)) | exact (rfl : AV.idsLt _ _ = true) | exact (rfl : _ = AV.ren _ (.own _)) | exact (rfl : _ = AV.ren _ (.fn _ _)) | exact (rfl : _ = AV.ren _ (.gh _)) | (exact congrArg intV (by assumption)) | (refine congrArg intV ((wr_id (by omega) (by omega)).trans (by omega))) | exact rfl | (simp only [Int.toNat_natCast, Int.toNat_zero, Nat.sub_zero, Nat.zero_add]; first | exact rfl | done) | exact all0 | exact fun h => Bool.noConfusion h | exact fun _ _ _ _ => rfl | omega)
    conv => whnf
    repeat' (first
      | (refine NilG.mk fun bn hbn => ?_; conv => whnf)
      | (refine Both.mk ?_ ?_ <;> conv => whnf)
      | exact trivial
      | (refine Br.mk (fun hb => ?_) (fun hb => ?_) <;> (first | (exfalso; revert hb; decide) | ((try simp only [BL] at hb) <;> (try simp only [DL] at hb) <;> conv => whnf)))
      | (refine And.intro ?_ ?_; (focus (first | exact id | exact rfl | exact trivial | (intro hg; first | exact hg | exact rfl | (simp; done) | (simp at hg ⊢; assumption)) | omega | decide | exact is2_c _ _ _ | exact is1_c _ _ | exact isS_c _ _ | exact isB_c _ _ | exact Nat.le_refl _ | assumption | exact mulLe (by decide) (by omega) | exact mulLe2 (by decide) (by omega) (by omega) | (intros; simp only [BL] at *; omega) | (intros; (try simp only [BL] at *); (try simp only [DL] at *); omega) | (intros; simp only [BL] at *; rw [wr_id (by omega) (by omega)]; omega) | (intros; simp_all; done) | exact ⟨is1_c _ _, hn⟩)); conv => whnf)
      | (refine Or.inr (And.intro rfl ?_); first | (refine congrArg intV ?_) | (refine congrArg boolV ?_) | (refine tupII ?_ ?_) | (refine tupIII ?_ ?_ ?_) | (refine tupU ?_ ?_ ?_ ?_ ?_) | exact rfl))
    · refine ⟨i + 1, [], by omega, by omega, ?_⟩
      refine Sub.of ?_ ?_ ?_
      repeat' (first | (refine And.intro ?_ ?_) | exact trivial | exact fun _ _ _ => hsc _ _ | (exact congrArg intV (by first | with_reducible rfl | with_reducible assumption)) | exact (rfl : AV.idsLt _ _ = true) | exact (rfl : _ = AV.ren _ (.own _)) | exact (rfl : _ = AV.ren _ (.fn _ _)) | exact (rfl : _ = AV.ren _ (.gh _)) | (exact congrArg intV (by assumption)) | (refine congrArg intV ((wr_id (by omega) (by omega)).trans (by omega))) | exact rfl | (simp only [Int.toNat_natCast, Int.toNat_zero, Nat.sub_zero, Nat.zero_add]; first | exact rfl | done) | exact all0 | exact fun h => Bool.noConfusion h | exact fun _ _ _ _ => rfl | omega)
    · refine ⟨i + 1, [], by omega, by omega, ?_⟩
      refine Sub.of ?_ ?_ ?_
      repeat' (first | (refine And.intro ?_ ?_) | exact trivial | exact fun _ _ _ => hsc _ _ | (exact congrArg intV (by first | with_reducible rfl | with_reducible assumption)) | exact (rfl : AV.idsLt _ _ = true) | exact (rfl : _ = AV.ren _ (.own _)) | exact (rfl : _ = AV.ren _ (.fn _ _)) | exact (rfl : _ = AV.ren _ (.gh _)) | (exact congrArg intV (by assumption)) | (refine congrArg intV ((wr_id (by omega) (by omega)).trans (by omega))) | exact rfl | (simp only [Int.toNat_natCast, Int.toNat_zero, Nat.sub_zero, Nat.zero_add]; first | exact rfl | done) | exact all0 | exact fun h => Bool.noConfusion h | exact fun _ _ _ _ => rfl | omega)
    · exact absurd hE hb
    · rfl
  have hn24 : n ≤ 24 := by omega
  have hcn : hcE n w = erH w n := by unfold hcE erH; rw [if_neg (by omega)]
  clear hb
  refine sem_loop tab_ok gamHL_ok mixed (by kernel_rfl) (O := lex) (fun i : Nat => ⟨[(0, intV T), (1, .c (.sl 1 n (c1 w))), (2, intV size), (9, .c (.sl 1 A (c1 a))), (10, intV (spE T n w)), (11, .c (.sl 1 B (c1 b))), (12, intV (suE n w size)), (13, intV (erH w i)), (14, intV 0), (15, boolV false), (60, .c (.sl 1 n (c1 w))), (61, intV n), (62, intV i)], []⟩) (fun i => i ≤ n) (fun i => n - i) ⟨0, [], Nat.zero_le _, ?_⟩ fun i hi => ?_
  · refine Sub.of ?_ ?_ ?_
    repeat' (first | (refine And.intro ?_ ?_) | exact trivial | exact fun _ _ _ => hsc _ _ | (exact congrArg intV (by first | with_reducible rfl | with_reducible assumption)) | exact (rfl : AV.idsLt _ _ = true) | exact (rfl : _ = AV.ren _ (.own _)) | exact (rfl : _ = AV.ren _ (.fn _ _)) | exact (rfl : _ = AV.ren _ (.gh _)) | (exact congrArg intV (by assumption)) | (refine congrArg intV ((wr_id (by omega) (by omega)).trans (by omega))) | exact rfl | (simp only [Int.toNat_natCast, Int.toNat_zero, Nat.sub_zero, Nat.zero_add]; first | exact rfl | done) | exact all0 | exact fun h => Bool.noConfusion h | exact fun _ _ _ _ => rfl | omega)
  conv => whnf
  repeat' (first
    | (refine NilG.mk fun bn hbn => ?_; conv => whnf)
    | (refine Both.mk ?_ ?_ <;> conv => whnf)
    | exact trivial
    | (refine Br.mk (fun hb => ?_) (fun hb => ?_) <;> (first | (exfalso; revert hb; decide) | ((try simp only [BL] at hb) <;> (try simp only [DL] at hb) <;> conv => whnf)))
    | (refine And.intro ?_ ?_; (focus (first | exact id | exact rfl | exact trivial | (intro hg; first | exact hg | exact rfl | (simp; done) | (simp at hg ⊢; assumption)) | omega | decide | exact is2_c _ _ _ | exact is1_c _ _ | exact isS_c _ _ | exact isB_c _ _ | exact Nat.le_refl _ | assumption | exact mulLe (by decide) (by omega) | exact mulLe2 (by decide) (by omega) (by omega) | (intros; simp only [BL] at *; omega) | (intros; (try simp only [BL] at *); (try simp only [DL] at *); omega) | (intros; simp only [BL] at *; rw [wr_id (by omega) (by omega)]; omega) | (intros; simp_all; done) | exact ⟨is1_c _ _, hn⟩)); conv => whnf)
    | (refine Or.inr (And.intro rfl ?_); first | (refine congrArg intV ?_) | (refine congrArg boolV ?_) | (refine tupII ?_ ?_) | (refine tupIII ?_ ?_ ?_) | (refine tupU ?_ ?_ ?_ ?_ ?_) | exact rfl))
  · have e1 : erH w (i + 1) = 4 := by
      rw [erH_step, if_pos]
      refine ⟨hb.1, ?_⟩
      simp only [badW, inB, BL]
      omega
    refine ⟨i + 1, [], by omega, by omega, ?_⟩
    refine Sub.of ?_ ?_ ?_
    repeat' (first | (refine And.intro ?_ ?_) | exact trivial | exact fun _ _ _ => hsc _ _ | (exact congrArg intV (by first | with_reducible rfl | with_reducible assumption)) | exact (rfl : AV.idsLt _ _ = true) | exact (rfl : _ = AV.ren _ (.own _)) | exact (rfl : _ = AV.ren _ (.fn _ _)) | exact (rfl : _ = AV.ren _ (.gh _)) | (exact congrArg intV (by assumption)) | (refine congrArg intV ((wr_id (by omega) (by omega)).trans (by omega))) | exact rfl | (simp only [Int.toNat_natCast, Int.toNat_zero, Nat.sub_zero, Nat.zero_add]; first | exact rfl | done) | exact all0 | exact fun h => Bool.noConfusion h | exact fun _ _ _ _ => rfl | omega)
    rw [e1]
    rfl
  · have e1 : erH w (i + 1) = erH w i := by
      rw [erH_step, if_neg]
      rintro ⟨h1, h2⟩
      simp only [badW, inB, BL] at h2
      omega
    refine ⟨i + 1, [], by omega, by omega, ?_⟩
    refine Sub.of ?_ ?_ ?_
    repeat' (first | (refine And.intro ?_ ?_) | exact trivial | exact fun _ _ _ => hsc _ _ | (exact congrArg intV (by first | with_reducible rfl | with_reducible assumption)) | exact (rfl : AV.idsLt _ _ = true) | exact (rfl : _ = AV.ren _ (.own _)) | exact (rfl : _ = AV.ren _ (.fn _ _)) | exact (rfl : _ = AV.ren _ (.gh _)) | (exact congrArg intV (by assumption)) | (refine congrArg intV ((wr_id (by omega) (by omega)).trans (by omega))) | exact rfl | (simp only [Int.toNat_natCast, Int.toNat_zero, Nat.sub_zero, Nat.zero_add]; first | exact rfl | done) | exact all0 | exact fun h => Bool.noConfusion h | exact fun _ _ _ _ => rfl | omega)
    rw [e1]
    rfl
  · have hin : i = n := by omega
    subst hin
    exact absurd hcn hb
  · rename_i h1
    have h0 : ¬ erH w i = 0 := hb
    have hin : i = n := by omega
    subst hin
    have hsE : spE T i w = erH w i := by unfold spE; rw [if_pos (by rw [hcn]; exact h0), hcn]
    have huE : suE i w size = erH w i := by unfold suE; rw [if_pos (by rw [hcn]; exact h0), hcn]
    rw [hA0 (by rw [hsE]; exact h0), hB0 (by rw [huE]; exact h0), hsE, huE]
    simp
  have h0 : erH w i = 0 := hb
  have hin : i = n := by omega
  subst hin
  clear hb
  rw [h0]
  have hc0 : hcE i w = 0 := hcn.trans h0
  have hw := (hcE_zero hc0).2
  have hS : ∀ k, k ≤ i → -2400000 ≤ S w k ∧ S w k ≤ 2400000 := fun k hk => by
    have := S_le (p := w) (k := k) (a := -100000) (b := 100000) fun j hj => hw j (by omega)
    omega
  have hr0 : rnH size 0 = 0 := by unfold rnH; split <;> rfl
  refine LoopG.nil 18 3 1 rfl ?_
  refine sem_loop tab_ok gamHL_ok mixed (by kernel_rfl) (O := lex) (fun j : Nat => ⟨[(0, intV T), (1, .c (.sl 1 i (c1 w))), (2, intV size), (9, .c (.sl 1 A (c1 a))), (10, intV (spE T i w)), (11, .c (.sl 1 B (c1 b))), (12, intV (suE i w size)), (13, intV 0), (14, intV (S w j)), (15, boolV (decide (fidx (fun k => negW (w k)) j ≥ 0))), (18, .own 0), (98, .c (.sl 1 i (c1 w))), (99, intV i), (100, intV j)], [.row 3 1 (rnH size j) false (c1 (smF size w j))]⟩) (fun j => j ≤ i) (fun j => i - j) ⟨0, [?_], Nat.zero_le _, ?_⟩ fun j hj => ?_
  rotate_left 1
  · refine Sub.of ?_ ?_ ?_
    repeat' (first | (refine And.intro ?_ ?_) | exact trivial | exact fun _ _ _ => hsc _ _ | (exact congrArg intV (by first | with_reducible rfl | with_reducible assumption)) | exact (rfl : AV.idsLt _ _ = true) | exact (rfl : _ = AV.ren _ (.own _)) | exact (rfl : _ = AV.ren _ (.fn _ _)) | exact (rfl : _ = AV.ren _ (.gh _)) | (exact congrArg intV (by assumption)) | (refine congrArg intV ((wr_id (by omega) (by omega)).trans (by omega))) | exact rfl | (simp only [Int.toNat_natCast, Int.toNat_zero, Nat.sub_zero, Nat.zero_add]; first | exact rfl | done) | exact all0 | exact fun h => Bool.noConfusion h | exact fun _ _ _ _ => rfl | omega)
  have ew : j < i → IntKind.i64.wrap (S w j + w (j : Int).toNat) = S w (j + 1) := fun h => by
    have k1 := hS j (by omega)
    have k2 := hw j h
    rw [Int.toNat_natCast, wr_id (by omega) (by omega)]
    rfl
  have ef : (decide (fidx (fun k => negW (w k)) j ≥ 0) || decide (w (j : Int).toNat < 0)) = decide (fidx (fun k => negW (w k)) (j + 1) ≥ 0) := (fidx_step (fun k => negW (w k)) j).symm
  have hsl := smN_le size j
  have hsv := smF_le (size := size) j (fun k hk => hw k (by omega))
  have hsf : ∀ z, smF size w (j + 1) z = (if z < smN size j then smF size w j z else 0) + (if z + 1 = smN size (j + 1) then w j else 0) := fun _ => rfl
  have hsn : smN size (j + 1) = if Int.tmod j size = 0 then smN size j + 1 else smN size j := rfl
  have hin : size ≥ 1 ∧ size ≤ 24 → ∀ z, rnH size z = smN size z := fun h z => by
    unfold rnH
    rw [if_pos (by simp only [inB, BL]; omega)]
  have hout : ¬(size ≥ 1 ∧ size ≤ 24) → ∀ z, rnH size z = 0 := fun h z => by
    unfold rnH
    rw [if_neg (by simp only [inB, BL]; omega)]
  have hwA : rnH size j = smN size j → IntKind.i64.wrap (((rnH size j + 1 : Nat) : Int) - 1) = (rnH size j : Nat) := fun h => by rw [h]; exact (wr_id (by omega) (by omega)).trans (by omega)
  have hwB : rnH size j = smN size j → 0 < smN size j → IntKind.i64.wrap (((rnH size j : Nat) : Int) - 1) = (rnH size j - 1 : Nat) := fun h h' => by rw [h]; exact (wr_id (by omega) (by omega)).trans (by omega)
  conv => whnf
  repeat' (first
    | (refine NilG.mk fun bn hbn => ?_; conv => whnf)
    | (refine Both.mk ?_ ?_ <;> conv => whnf)
    | exact trivial
    | (refine Br.mk (fun hb => ?_) (fun hb => ?_) <;> (first | (exfalso; revert hb; decide) | ((try simp only [BL] at hb) <;> (try simp only [DL] at hb) <;> conv => whnf)))
    | (refine And.intro ?_ ?_; (focus (first | exact id | exact rfl | exact trivial | (intro hg; first | exact hg | exact rfl | (simp; done) | (simp at hg ⊢; assumption)) | omega | decide | exact is2_c _ _ _ | exact is1_c _ _ | exact isS_c _ _ | exact isB_c _ _ | exact Nat.le_refl _ | assumption | exact mulLe (by decide) (by omega) | exact mulLe2 (by decide) (by omega) (by omega) | (intros; simp only [BL] at *; omega) | (intros; (try simp only [BL] at *); (try simp only [DL] at *); omega) | (intros; simp only [BL] at *; rw [wr_id (by omega) (by omega)]; omega) | (intros; simp_all; done))); conv => whnf)
    | (refine Or.inr (And.intro rfl ?_); first | (refine congrArg intV ?_) | (refine congrArg boolV ?_) | (refine tupII ?_ ?_) | (refine tupIII ?_ ?_ ?_) | (refine tupU ?_ ?_ ?_ ?_ ?_) | exact rfl))
  · rename_i hz
    have hij : j < i := by omega
    have hr1 := hin hz j
    have hr2 := hin hz (j + 1)
    have hs1 : smN size (j + 1) = smN size j + 1 := by rw [hsn, if_pos hb]
    have hs2 : rnH size (j + 1) = rnH size j + 1 := by omega
    have ew := ew hij
    refine And.intro (by show (rnH size j + 1) * 8 ≤ _; omega) ?_
    conv => whnf
    repeat' (first
      | (refine NilG.mk fun bn hbn => ?_; conv => whnf)
      | (refine Both.mk ?_ ?_ <;> conv => whnf)
      | exact trivial
      | (refine Br.mk (fun hb => ?_) (fun hb => ?_) <;> (first | (exfalso; revert hb; decide) | ((try simp only [BL] at hb) <;> (try simp only [DL] at hb) <;> conv => whnf)))
      | (refine And.intro ?_ ?_; (focus (first | exact id | exact rfl | exact trivial | (intro hg; first | exact hg | exact rfl | (simp; done) | (simp at hg ⊢; assumption)) | omega | decide | exact is2_c _ _ _ | exact is1_c _ _ | exact isS_c _ _ | exact isB_c _ _ | exact Nat.le_refl _ | assumption | exact mulLe (by decide) (by omega) | exact mulLe2 (by decide) (by omega) (by omega) | (intros; simp only [BL] at *; omega) | (intros; (try simp only [BL] at *); (try simp only [DL] at *); omega) | (intros; simp only [BL] at *; rw [wr_id (by omega) (by omega)]; omega) | (intros; simp_all; done))); conv => whnf)
      | (refine Or.inr (And.intro rfl ?_); first | (refine congrArg intV ?_) | (refine congrArg boolV ?_) | (refine tupII ?_ ?_) | (refine tupIII ?_ ?_ ?_) | (refine tupU ?_ ?_ ?_ ?_ ?_) | exact rfl))
    rw [hwA hr1]
    refine And.intro ⟨rfl, by rw [Int.toNat_natCast]; omega, by decide⟩ ?_
    dsimp only
    rw [if_neg (show ¬ ((rnH size j : Nat) : Int).toNat < rnH size j by rw [Int.toNat_natCast]; omega), show ((rnH size j : Nat) : Int).toNat - rnH size j = 0 by rw [Int.toNat_natCast]; omega]
    conv => whnf
    repeat' (first
      | (refine NilG.mk fun bn hbn => ?_; conv => whnf)
      | (refine Both.mk ?_ ?_ <;> conv => whnf)
      | exact trivial
      | (refine Br.mk (fun hb => ?_) (fun hb => ?_) <;> (first | (exfalso; revert hb; decide) | ((try simp only [BL] at hb) <;> (try simp only [DL] at hb) <;> conv => whnf)))
      | (refine And.intro ?_ ?_; (focus (first | exact id | exact rfl | exact trivial | (intro hg; first | exact hg | exact rfl | (simp; done) | (simp at hg ⊢; assumption)) | omega | decide | exact is2_c _ _ _ | exact is1_c _ _ | exact isS_c _ _ | exact isB_c _ _ | exact Nat.le_refl _ | assumption | exact mulLe (by decide) (by omega) | exact mulLe2 (by decide) (by omega) (by omega) | (intros; simp only [BL] at *; omega) | (intros; (try simp only [BL] at *); (try simp only [DL] at *); omega) | (intros; simp only [BL] at *; rw [wr_id (by omega) (by omega)]; omega) | (intros; simp_all; done) | (refine ⟨rfl, ?_⟩; decide) | (rw [Int.toNat_natCast]; omega))); conv => whnf)
      | (refine Or.inr (And.intro rfl ?_); first | (refine congrArg intV ?_) | (refine congrArg boolV ?_) | (refine tupII ?_ ?_) | (refine tupIII ?_ ?_ ?_) | (refine tupU ?_ ?_ ?_ ?_ ?_) | exact rfl))
    · refine ⟨j + 1, [?_], by omega, by omega, ?_⟩
      rotate_left 1
      refine Sub.of ?_ ?_ ?_
      repeat' (first | (refine And.intro ?_ ?_) | exact trivial | exact fun _ _ _ => hsc _ _ | (exact congrArg intV (by first | with_reducible rfl | with_reducible assumption)) | exact (rfl : AV.idsLt _ _ = true) | exact (rfl : _ = AV.ren _ (.own _)) | exact (rfl : _ = AV.ren _ (.fn _ _)) | exact (rfl : _ = AV.ren _ (.gh _)) | (exact congrArg intV (by assumption)) | (refine congrArg intV ((wr_id (by omega) (by omega)).trans (by omega))) | exact rfl | (simp only [Int.toNat_natCast, Int.toNat_zero, Nat.sub_zero, Nat.zero_add]; first | exact rfl | done) | exact all0 | exact fun h => Bool.noConfusion h | exact fun _ _ _ _ => rfl | omega)
      · show AV.c (L.v (Value.bool (decide (fidx (fun k => negW (w k)) j ≥ 0) || decide (w (j : Int).toNat < 0)))) = _
        rw [ef]
        rfl
      intro k hk c hc
      have hc : c < 1 := hc
      obtain rfl : c = 0 := by omega
      have hw' := hw j hij
      dsimp only
      simp only [Int.toNat_natCast]
      show _ = L.v (Value.int IntKind.i64 (smF size w (j + 1) k))
      rw [hsf, hs1, wr_id (by omega) (by omega), hr1]
      by_cases he : k = smN size j
      · subst he
        rw [if_pos rfl, if_neg (Nat.lt_irrefl (smN size j)), if_pos rfl]
        show L.v (Value.int IntKind.i64 (0 + w j)) = _
        rw [if_neg (Nat.lt_irrefl _)]
      · rw [if_neg he, if_pos (by omega), if_pos (by omega), if_neg (by omega), Int.add_zero]; rfl
  · rename_i hz
    have hij : j < i := by omega
    have hr1 := hin hz j
    have hr2 := hin hz (j + 1)
    have hp : 0 < smN size j := hsl.2 (Nat.pos_of_ne_zero fun e => hb (by subst e; simp))
    have hs1 : smN size (j + 1) = smN size j := by rw [hsn, if_neg hb]
    have hs2 : rnH size (j + 1) = rnH size j := by omega
    have ew := ew hij
    rw [hwB hr1 hp]
    refine And.intro (by omega) ?_
    conv => whnf
    repeat' (first
      | (refine NilG.mk fun bn hbn => ?_; conv => whnf)
      | (refine Both.mk ?_ ?_ <;> conv => whnf)
      | exact trivial
      | (refine Br.mk (fun hb => ?_) (fun hb => ?_) <;> (first | (exfalso; revert hb; decide) | ((try simp only [BL] at hb) <;> (try simp only [DL] at hb) <;> conv => whnf)))
      | (refine And.intro ?_ ?_; (focus (first | exact id | exact rfl | exact trivial | (intro hg; first | exact hg | exact rfl | (simp; done) | (simp at hg ⊢; assumption)) | omega | decide | exact is2_c _ _ _ | exact is1_c _ _ | exact isS_c _ _ | exact isB_c _ _ | exact Nat.le_refl _ | assumption | exact mulLe (by decide) (by omega) | exact mulLe2 (by decide) (by omega) (by omega) | (intros; simp only [BL] at *; omega) | (intros; (try simp only [BL] at *); (try simp only [DL] at *); omega) | (intros; simp only [BL] at *; rw [wr_id (by omega) (by omega)]; omega) | (intros; simp_all; done) | (refine ⟨rfl, ?_, by decide⟩; rw [Int.toNat_natCast]; omega) | (rw [Int.toNat_natCast]; omega))); conv => whnf)
      | (refine Or.inr (And.intro rfl ?_); first | (refine congrArg intV ?_) | (refine congrArg boolV ?_) | (refine tupII ?_ ?_) | (refine tupIII ?_ ?_ ?_) | (refine tupU ?_ ?_ ?_ ?_ ?_) | exact rfl))
    · refine ⟨j + 1, [?_], by omega, by omega, ?_⟩
      rotate_left 1
      refine Sub.of ?_ ?_ ?_
      repeat' (first | (refine And.intro ?_ ?_) | exact trivial | exact fun _ _ _ => hsc _ _ | (exact congrArg intV (by first | with_reducible rfl | with_reducible assumption)) | exact (rfl : AV.idsLt _ _ = true) | exact (rfl : _ = AV.ren _ (.own _)) | exact (rfl : _ = AV.ren _ (.fn _ _)) | exact (rfl : _ = AV.ren _ (.gh _)) | (exact congrArg intV (by assumption)) | (refine congrArg intV ((wr_id (by omega) (by omega)).trans (by omega))) | exact rfl | (simp only [Int.toNat_natCast, Int.toNat_zero, Nat.sub_zero, Nat.zero_add]; first | exact rfl | done) | exact all0 | exact fun h => Bool.noConfusion h | exact fun _ _ _ _ => rfl | omega)
      · show AV.c (L.v (Value.bool (decide (fidx (fun k => negW (w k)) j ≥ 0) || decide (w (j : Int).toNat < 0)))) = _
        rw [ef]
        rfl
      intro k hk c hc
      obtain rfl : c = 0 := by omega
      have hw' := hw j hij
      have hv' := hsv (smN size j - 1)
      dsimp only
      simp only [Int.toNat_natCast]
      show _ = L.v (Value.int IntKind.i64 (smF size w (j + 1) k))
      rw [hsf, hs1, hr1, wr_id (by omega) (by omega)]
      by_cases he : k = smN size j - 1
      · subst he
        rw [if_pos rfl]
        show L.v (Value.int IntKind.i64 (smF size w j (smN size j - 1) + w j)) = _
        rw [if_pos (show smN size j - 1 < smN size j by omega), if_pos (show smN size j - 1 + 1 = smN size j by omega)]
      · rw [if_neg he, if_pos (by omega), if_neg (by omega), Int.add_zero]; rfl
  · have hij : j < i := by omega
    have hr1 := hout (by omega) j
    have hr2 := hout (by omega) (j + 1)
    have hs2 : rnH size (j + 1) = rnH size j := by omega
    have ew := ew hij
    refine ⟨j + 1, [?_], by omega, by omega, ?_⟩
    rotate_left 1
    refine Sub.of ?_ ?_ ?_
    repeat' (first | (refine And.intro ?_ ?_) | exact trivial | exact fun _ _ _ => hsc _ _ | (exact congrArg intV (by first | with_reducible rfl | with_reducible assumption)) | exact (rfl : AV.idsLt _ _ = true) | exact (rfl : _ = AV.ren _ (.own _)) | exact (rfl : _ = AV.ren _ (.fn _ _)) | exact (rfl : _ = AV.ren _ (.gh _)) | (exact congrArg intV (by assumption)) | (refine congrArg intV ((wr_id (by omega) (by omega)).trans (by omega))) | exact rfl | (simp only [Int.toNat_natCast, Int.toNat_zero, Nat.sub_zero, Nat.zero_add]; first | exact rfl | done) | exact all0 | exact fun h => Bool.noConfusion h | exact fun _ _ _ _ => rfl | omega)
    · show AV.c (L.v (Value.bool (decide (fidx (fun k => negW (w k)) j ≥ 0) || decide (w (j : Int).toNat < 0)))) = _
      rw [ef]
      rfl
  · have huE : suE i w size = 1 := by unfold suE; rw [if_neg (fun h => h hc0), if_pos (by omega)]
    have hji : j = i := by omega
    subst hji
    have hr1 := hout (by omega) j
    have hB := hB0 (by rw [huE]; decide)
    refine And.intro (fun _ => ⟨is1_c _ _, is1_c _ _, by omega, by omega, fun k hk => absurd hk (by omega)⟩) ?_
    rw [huE]
    conv => whnf
    repeat' (first
      | (refine NilG.mk fun bn hbn => ?_; conv => whnf)
      | (refine Both.mk ?_ ?_ <;> conv => whnf)
      | exact trivial
      | (refine Br.mk (fun hb => ?_) (fun hb => ?_) <;> (first | (exfalso; revert hb; decide) | ((try simp only [BL] at hb) <;> (try simp only [DL] at hb) <;> conv => whnf)))
      | (refine And.intro ?_ ?_; (focus (first | exact id | exact rfl | exact trivial | (intro hg; first | exact hg | exact rfl | (simp; done) | (simp at hg ⊢; assumption)) | omega | decide | exact is2_c _ _ _ | exact is1_c _ _ | exact isS_c _ _ | exact isB_c _ _ | exact Nat.le_refl _ | assumption | exact mulLe (by decide) (by omega) | exact mulLe2 (by decide) (by omega) (by omega) | (intros; simp only [BL] at *; omega) | (intros; (try simp only [BL] at *); (try simp only [DL] at *); omega) | (intros; simp only [BL] at *; rw [wr_id (by omega) (by omega)]; omega) | (intros; simp_all; done))); conv => whnf)
      | (refine Or.inr (And.intro rfl ?_); first | (refine congrArg intV ?_) | (refine congrArg boolV ?_) | (refine tupII ?_ ?_) | (refine tupIII ?_ ?_ ?_) | (refine tupU ?_ ?_ ?_ ?_ ?_) | exact rfl))
    · have hsE : spE T j w = 4 := by unfold spE; rw [if_neg (fun h => h hc0), if_pos (by omega)]
      rw [hA0 (by rw [hsE]; decide), hsE]
      rfl
    · rename_i hz
      have hsE : spE T j w = 10 := by unfold spE; rw [if_neg (fun h => h hc0), if_neg (by omega), if_pos hb]
      rw [hA0 (by rw [hsE]; decide), hsE]
      rfl
    · rename_i hz
      have hT : 0 ≤ T ∧ T ≤ 2400000 := hz.1
      have hN := hz.2
      have hd0 : ¬ S w j = 0 := hb
      clear hb
      have hsE : spE T j w = 0 := by unfold spE; rw [if_neg (fun h => h hc0), if_neg (by omega), if_neg hd0]
      obtain ⟨hA, ha⟩ := hA1 hsE
      rw [hA, ha, hsE]
      have hw1 : ∀ k, k < j → 0 ≤ w k ∧ w k ≤ 100000 := fun k hk => by
        have k1 := fidx_neg hN k hk
        have k2 := hw k hk
        simp only [negW, BL] at k1
        omega
      have hs : 0 < S w j ∧ S w j ≤ 2400000 := by
        have := S_le (p := w) (k := j) (a := 0) (b := 100000) fun i hi => hw1 i (by omega)
        omega
      clear hA0 hA1 hB0 hB1 hsE huE hA ha hd0 hS ew ef hsv hsf hr1 hwA hwB
      generalize hd : S w j = d at *
      have hbs := fun k (hk : k < j) => bsH_b (i := k) hT hs.1 (hw1 k hk)
      have hwd : ∀ k, k < j → IntKind.i64.wrap ((IntKind.i64.wrap (T * w (k : Int).toNat)).tdiv d) = bsH T d w k := fun k hk => by
        have k1 := mul_T hT (hw1 k hk)
        have k2 := hbs k hk
        rw [Int.toNat_natCast, wr_id (x := T * w k) (by omega) (by omega)]
        exact wr_id (by unfold bsH at k2; omega) (by unfold bsH at k2; omega)
      have hwe : ∀ k, k < j → IntKind.i64.wrap (T - S (bsH T d w) k - bsH T d w k) = T - S (bsH T d w) (k + 1) := fun k hk => by
        have k1 := S_le (p := bsH T d w) (k := k) (a := 0) (b := 240000000000) fun z hz => hbs z (by omega)
        have k2 := hbs k hk
        rw [wr_id (by omega) (by omega)]
        simp only [S]
        omega
      have hs0 : T = T - S (bsH T d w) 0 := (Int.sub_zero T).symm
      refine sem_loop tab_ok gamHL_ok mixed (by kernel_rfl) (O := lex) (fun k : Nat => ⟨[(0, intV T), (1, .c (.sl 1 j (c1 w))), (9, .c (.sl 1 j (c1 (spF T j w)))), (10, intV 0), (14, intV d), (21, intV (T - S (bsH T d w) k)), (167, .c (.sl 1 j (c1 w))), (168, intV j), (169, intV k)], []⟩) (fun k => k ≤ j) (fun k => j - k) ⟨0, [], Nat.zero_le _, ?_⟩ fun k hk => ?_
      · refine Sub.of ?_ ?_ ?_
        repeat' (first | (refine And.intro ?_ ?_) | exact trivial | exact fun _ _ _ => hsc _ _ | (exact congrArg intV (by first | with_reducible rfl | with_reducible assumption)) | exact (rfl : AV.idsLt _ _ = true) | exact (rfl : _ = AV.ren _ (.own _)) | exact (rfl : _ = AV.ren _ (.fn _ _)) | exact (rfl : _ = AV.ren _ (.gh _)) | (exact congrArg intV (by assumption)) | (refine congrArg intV ((wr_id (by omega) (by omega)).trans (by omega))) | exact rfl | (simp only [Int.toNat_natCast, Int.toNat_zero, Nat.sub_zero, Nat.zero_add]; first | exact rfl | done) | exact all0 | exact fun h => Bool.noConfusion h | exact fun _ _ _ _ => rfl | omega)
      conv => whnf
      repeat' (first
        | (refine NilG.mk fun bn hbn => ?_; conv => whnf)
        | (refine Both.mk ?_ ?_ <;> conv => whnf)
        | exact trivial
        | (refine Br.mk (fun hb => ?_) (fun hb => ?_) <;> (first | (exfalso; revert hb; decide) | ((try simp only [BL] at hb) <;> (try simp only [DL] at hb) <;> conv => whnf)))
        | (refine And.intro ?_ ?_; (focus (first | exact id | exact rfl | exact trivial | (intro hg; first | exact hg | exact rfl | (simp; done) | (simp at hg ⊢; assumption)) | omega | decide | exact is2_c _ _ _ | exact is1_c _ _ | exact isS_c _ _ | exact isB_c _ _ | exact Nat.le_refl _ | assumption | exact mulLe (by decide) (by omega) | exact mulLe2 (by decide) (by omega) (by omega) | (intros; simp only [BL] at *; omega) | (intros; (try simp only [BL] at *); (try simp only [DL] at *); omega) | (intros; simp only [BL] at *; rw [wr_id (by omega) (by omega)]; omega) | (intros; simp_all; done))); conv => whnf)
        | (refine Or.inr (And.intro rfl ?_); first | (refine congrArg intV ?_) | (refine congrArg boolV ?_) | (refine tupII ?_ ?_) | (refine tupIII ?_ ?_ ?_) | (refine tupU ?_ ?_ ?_ ?_ ?_) | exact rfl))
      · have e1 := hwd k (by omega)
        have e2 := hwe k (by omega)
        have e3 : IntKind.i64.wrap (T - S (bsH T d w) k - IntKind.i64.wrap ((IntKind.i64.wrap (T * w (k : Int).toNat)).tdiv d)) = T - S (bsH T d w) (k + 1) := by rw [e1, e2]
        refine ⟨k + 1, [], by omega, by omega, ?_⟩
        refine Sub.of ?_ ?_ ?_
        repeat' (first | (refine And.intro ?_ ?_) | exact trivial | exact fun _ _ _ => hsc _ _ | (exact congrArg intV (by first | with_reducible rfl | with_reducible assumption)) | exact (rfl : AV.idsLt _ _ = true) | exact (rfl : _ = AV.ren _ (.own _)) | exact (rfl : _ = AV.ren _ (.fn _ _)) | exact (rfl : _ = AV.ren _ (.gh _)) | (exact congrArg intV (by assumption)) | (refine congrArg intV ((wr_id (by omega) (by omega)).trans (by omega))) | exact rfl | (simp only [Int.toNat_natCast, Int.toNat_zero, Nat.sub_zero, Nat.zero_add]; first | exact rfl | done) | exact all0 | exact fun h => Bool.noConfusion h | exact fun _ _ _ _ => rfl | omega)
      · exact absurd hb (by simp)
      have hkj : k = j := by omega
      rw [hkj]
      clear hb hs0 hwe
      have hwm : ∀ k, k < j → (IntKind.i64.wrap (T * w k)).tmod d = rmH T d w k := fun k hk => by
        have k1 := mul_T hT (hw1 k hk)
        rw [wr_id (x := T * w k) (by omega) (by omega)]
        rfl
      have hsp : ∀ i, spF T j w i = bsH T d w i + (if S (fun x => if sLt (fun k => -rmH T d w k) x i then 1 else 0) j < T - S (bsH T d w) j then 1 else 0) := fun i => by
        unfold spF rkH lfH
        rw [hd]
      refine sem_loop tab_ok gamHL_ok mixed (by kernel_rfl) (O := lex) (fun i : Nat => ⟨[(0, intV T), (1, .c (.sl 1 j (c1 w))), (9, .c (.sl 1 j (c1 (spF T j w)))), (14, intV d), (21, intV (T - S (bsH T d w) j)), (190, .c (.sl 1 j (c1 w))), (191, intV j), (192, intV i)], []⟩) (fun i => i ≤ j) (fun i => j - i) ⟨0, [], Nat.zero_le _, ?_⟩ fun i hi => ?_
      · refine Sub.of ?_ ?_ ?_
        repeat' (first | (refine And.intro ?_ ?_) | exact trivial | exact fun _ _ _ => hsc _ _ | (exact congrArg intV (by first | with_reducible rfl | with_reducible assumption)) | exact (rfl : AV.idsLt _ _ = true) | exact (rfl : _ = AV.ren _ (.own _)) | exact (rfl : _ = AV.ren _ (.fn _ _)) | exact (rfl : _ = AV.ren _ (.gh _)) | (exact congrArg intV (by assumption)) | (refine congrArg intV ((wr_id (by omega) (by omega)).trans (by omega))) | exact rfl | (simp only [Int.toNat_natCast, Int.toNat_zero, Nat.sub_zero, Nat.zero_add]; first | exact rfl | done) | exact all0 | exact fun h => Bool.noConfusion h | exact fun _ _ _ _ => rfl | omega)
      conv => whnf
      repeat' (first
        | (refine NilG.mk fun bn hbn => ?_; conv => whnf)
        | (refine Both.mk ?_ ?_ <;> conv => whnf)
        | exact trivial
        | (refine Br.mk (fun hb => ?_) (fun hb => ?_) <;> (first | (exfalso; revert hb; decide) | ((try simp only [BL] at hb) <;> (try simp only [DL] at hb) <;> conv => whnf)))
        | (refine And.intro ?_ ?_; (focus (first | exact id | exact rfl | exact trivial | (intro hg; first | exact hg | exact rfl | (simp; done) | (simp at hg ⊢; assumption)) | omega | decide | exact is2_c _ _ _ | exact is1_c _ _ | exact isS_c _ _ | exact isB_c _ _ | exact Nat.le_refl _ | assumption | exact mulLe (by decide) (by omega) | exact mulLe2 (by decide) (by omega) (by omega) | (intros; simp only [BL] at *; omega) | (intros; (try simp only [BL] at *); (try simp only [DL] at *); omega) | (intros; simp only [BL] at *; rw [wr_id (by omega) (by omega)]; omega) | (intros; simp_all; done))); conv => whnf)
        | (refine Or.inr (And.intro rfl ?_); first | (refine congrArg intV ?_) | (refine congrArg boolV ?_) | (refine tupII ?_ ?_) | (refine tupIII ?_ ?_ ?_) | (refine tupU ?_ ?_ ?_ ?_ ?_) | exact rfl))
      · have hij : i < j := by omega
        clear hb
        have e1 := hwd i hij
        have e5 : IntKind.i64.wrap ((IntKind.i64.wrap (T * w i)).tdiv d) = bsH T d w i := e1
        have mi := hwm i hij
        have hbi := hbs i hij
        have hspi := hsp i
        generalize hF : (fun x => if sLt (fun k => -rmH T d w k) x i then (1 : Int) else 0) = Fi at hspi
        have hFz : ∀ z, Fi z = if sLt (fun k => -rmH T d w k) z i then 1 else 0 := fun z => by rw [← hF]
        have hFb : ∀ z, 0 ≤ Fi z ∧ Fi z ≤ 1 := fun z => by rw [hFz]; split <;> omega
        refine sem_loop tab_ok gamHL_ok mixed (by kernel_rfl) (O := lex) (fun z : Nat => ⟨[(0, intV T), (1, .c (.sl 1 j (c1 w))), (9, .c (.sl 1 j (c1 (spF T j w)))), (14, intV d), (21, intV (T - S (bsH T d w) j)), (24, intV i), (25, intV (w i)), (26, intV (S Fi z)), (190, .c (.sl 1 j (c1 w))), (191, intV j), (192, intV i), (197, .c (.sl 1 j (c1 w))), (198, intV j), (199, intV z)], []⟩) (fun z => z ≤ j) (fun z => j - z) ⟨0, [], Nat.zero_le _, ?_⟩ fun z hz => ?_
        · refine Sub.of ?_ ?_ ?_
          repeat' (first | (refine And.intro ?_ ?_) | exact trivial | exact fun _ _ _ => hsc _ _ | (exact congrArg intV (by first | with_reducible rfl | with_reducible assumption)) | exact (rfl : AV.idsLt _ _ = true) | exact (rfl : _ = AV.ren _ (.own _)) | exact (rfl : _ = AV.ren _ (.fn _ _)) | exact (rfl : _ = AV.ren _ (.gh _)) | (exact congrArg intV (by assumption)) | (refine congrArg intV ((wr_id (by omega) (by omega)).trans (by omega))) | exact rfl | (simp only [Int.toNat_natCast, Int.toNat_zero, Nat.sub_zero, Nat.zero_add]; first | exact rfl | done) | exact all0 | exact fun h => Bool.noConfusion h | exact fun _ _ _ _ => rfl | omega)
        have hSz := S_le (p := Fi) (k := z) (a := 0) (b := 1) fun x _ => hFb x
        have hz1 : S Fi (z + 1) = S Fi z + Fi z := rfl
        have hzf := hFz z
        conv => whnf
        repeat' (first
          | (refine NilG.mk fun bn hbn => ?_; conv => whnf)
          | (refine Both.mk ?_ ?_ <;> conv => whnf)
          | exact trivial
          | (refine Br.mk (fun hb => ?_) (fun hb => ?_) <;> (first | (exfalso; revert hb; decide) | ((try simp only [BL] at hb) <;> (try simp only [DL] at hb) <;> conv => whnf)))
          | (refine And.intro ?_ ?_; (focus (first | exact id | exact rfl | exact trivial | (intro hg; first | exact hg | exact rfl | (simp; done) | (simp at hg ⊢; assumption)) | omega | decide | exact is2_c _ _ _ | exact is1_c _ _ | exact isS_c _ _ | exact isB_c _ _ | exact Nat.le_refl _ | assumption | exact mulLe (by decide) (by omega) | exact mulLe2 (by decide) (by omega) (by omega) | (intros; simp only [BL] at *; omega) | (intros; (try simp only [BL] at *); (try simp only [DL] at *); omega) | (intros; simp only [BL] at *; rw [wr_id (by omega) (by omega)]; omega) | (intros; simp_all; done))); conv => whnf)
          | (refine Or.inr (And.intro rfl ?_); first | (refine congrArg intV ?_) | (refine congrArg boolV ?_) | (refine tupII ?_ ?_) | (refine tupIII ?_ ?_ ?_) | (refine tupU ?_ ?_ ?_ ?_ ?_) | exact rfl))
        · have hzj : z < j := by omega
          rw [hwm z hzj, mi] at hb
          have hF1 : Fi z = 1 := by rw [hzf, if_pos (by unfold sLt; dsimp only; omega)]
          have e4 : IntKind.i64.wrap (S Fi z + 1) = S Fi (z + 1) := by rw [hz1, hF1]; exact wr_id (by omega) (by omega)
          refine ⟨z + 1, [], by omega, by omega, ?_⟩
          refine Sub.of ?_ ?_ ?_
          repeat' (first | (refine And.intro ?_ ?_) | exact trivial | exact fun _ _ _ => hsc _ _ | (exact congrArg intV (by first | with_reducible rfl | with_reducible assumption)) | exact (rfl : AV.idsLt _ _ = true) | exact (rfl : _ = AV.ren _ (.own _)) | exact (rfl : _ = AV.ren _ (.fn _ _)) | exact (rfl : _ = AV.ren _ (.gh _)) | (exact congrArg intV (by assumption)) | (refine congrArg intV ((wr_id (by omega) (by omega)).trans (by omega))) | exact rfl | (simp only [Int.toNat_natCast, Int.toNat_zero, Nat.sub_zero, Nat.zero_add]; first | exact rfl | done) | exact all0 | exact fun h => Bool.noConfusion h | exact fun _ _ _ _ => rfl | omega)
        · have hzj : z < j := by omega
          rw [hwm z hzj, mi] at hb
          have hF1 : Fi z = 0 := by rw [hzf, if_neg (by unfold sLt; dsimp only; omega)]
          have e4 : S Fi z = S Fi (z + 1) := by rw [hz1, hF1, Int.add_zero]
          refine ⟨z + 1, [], by omega, by omega, ?_⟩
          refine Sub.of ?_ ?_ ?_
          repeat' (first | (refine And.intro ?_ ?_) | exact trivial | exact fun _ _ _ => hsc _ _ | (exact congrArg intV (by first | with_reducible rfl | with_reducible assumption)) | exact (rfl : AV.idsLt _ _ = true) | exact (rfl : _ = AV.ren _ (.own _)) | exact (rfl : _ = AV.ren _ (.fn _ _)) | exact (rfl : _ = AV.ren _ (.gh _)) | (exact congrArg intV (by assumption)) | (refine congrArg intV ((wr_id (by omega) (by omega)).trans (by omega))) | exact rfl | (simp only [Int.toNat_natCast, Int.toNat_zero, Nat.sub_zero, Nat.zero_add]; first | exact rfl | done) | exact all0 | exact fun h => Bool.noConfusion h | exact fun _ _ _ _ => rfl | omega)
        · rename_i hlt
          have hzj : z = j := by omega
          rw [hzj] at hlt
          rw [e5, hspi, if_pos hlt, wr_id (x := bsH T d w i + 1) (by omega) (by omega)] at hb
          exact absurd rfl hb
        · refine ⟨i + 1, [], by omega, by omega, ?_⟩
          refine Sub.of ?_ ?_ ?_
          repeat' (first | (refine And.intro ?_ ?_) | exact trivial | exact fun _ _ _ => hsc _ _ | (exact congrArg intV (by first | with_reducible rfl | with_reducible assumption)) | exact (rfl : AV.idsLt _ _ = true) | exact (rfl : _ = AV.ren _ (.own _)) | exact (rfl : _ = AV.ren _ (.fn _ _)) | exact (rfl : _ = AV.ren _ (.gh _)) | (exact congrArg intV (by assumption)) | (refine congrArg intV ((wr_id (by omega) (by omega)).trans (by omega))) | exact rfl | (simp only [Int.toNat_natCast, Int.toNat_zero, Nat.sub_zero, Nat.zero_add]; first | exact rfl | done) | exact all0 | exact fun h => Bool.noConfusion h | exact fun _ _ _ _ => rfl | omega)
        · rename_i hlt
          have hzj : z = j := by omega
          rw [hzj] at hlt
          rw [e5, hspi, if_neg (by omega), Int.add_zero] at hb
          exact absurd rfl hb
        · refine ⟨i + 1, [], by omega, by omega, ?_⟩
          refine Sub.of ?_ ?_ ?_
          repeat' (first | (refine And.intro ?_ ?_) | exact trivial | exact fun _ _ _ => hsc _ _ | (exact congrArg intV (by first | with_reducible rfl | with_reducible assumption)) | exact (rfl : AV.idsLt _ _ = true) | exact (rfl : _ = AV.ren _ (.own _)) | exact (rfl : _ = AV.ren _ (.fn _ _)) | exact (rfl : _ = AV.ren _ (.gh _)) | (exact congrArg intV (by assumption)) | (refine congrArg intV ((wr_id (by omega) (by omega)).trans (by omega))) | exact rfl | (simp only [Int.toNat_natCast, Int.toNat_zero, Nat.sub_zero, Nat.zero_add]; first | exact rfl | done) | exact all0 | exact fun h => Bool.noConfusion h | exact fun _ _ _ _ => rfl | omega)
      · rfl
  · have huE : suE i w size = 0 := by unfold suE; rw [if_neg (fun h => h hc0), if_neg (by omega)]
    have hji : j = i := by omega
    subst hji
    have hr1 := hin (by omega) j
    obtain ⟨hB, hb9⟩ := hB1 huE
    refine And.intro (fun _ => ⟨is1_c _ _, is1_c _ _, by omega, by omega, fun k hk => by rw [hb9]⟩) ?_
    rw [huE]
    conv => whnf
    repeat' (first
      | (refine NilG.mk fun bn hbn => ?_; conv => whnf)
      | (refine Both.mk ?_ ?_ <;> conv => whnf)
      | exact trivial
      | (refine Br.mk (fun hb => ?_) (fun hb => ?_) <;> (first | (exfalso; revert hb; decide) | ((try simp only [BL] at hb) <;> (try simp only [DL] at hb) <;> conv => whnf)))
      | (refine And.intro ?_ ?_; (focus (first | exact id | exact rfl | exact trivial | (intro hg; first | exact hg | exact rfl | (simp; done) | (simp at hg ⊢; assumption)) | omega | decide | exact is2_c _ _ _ | exact is1_c _ _ | exact isS_c _ _ | exact isB_c _ _ | exact Nat.le_refl _ | assumption | exact mulLe (by decide) (by omega) | exact mulLe2 (by decide) (by omega) (by omega) | (intros; simp only [BL] at *; omega) | (intros; (try simp only [BL] at *); (try simp only [DL] at *); omega) | (intros; simp only [BL] at *; rw [wr_id (by omega) (by omega)]; omega) | (intros; simp_all; done))); conv => whnf)
      | (refine Or.inr (And.intro rfl ?_); first | (refine congrArg intV ?_) | (refine congrArg boolV ?_) | (refine tupII ?_ ?_) | (refine tupIII ?_ ?_ ?_) | (refine tupU ?_ ?_ ?_ ?_ ?_) | exact rfl))
    · have hsE : spE T j w = 4 := by unfold spE; rw [if_neg (fun h => h hc0), if_pos (by omega)]
      rw [hA0 (by rw [hsE]; decide), hsE]
      rfl
    · rename_i hz
      have hsE : spE T j w = 10 := by unfold spE; rw [if_neg (fun h => h hc0), if_neg (by omega), if_pos hb]
      rw [hA0 (by rw [hsE]; decide), hsE]
      rfl
    · rename_i hz
      have hT : 0 ≤ T ∧ T ≤ 2400000 := hz.1
      have hN := hz.2
      have hd0 : ¬ S w j = 0 := hb
      clear hb
      have hsE : spE T j w = 0 := by unfold spE; rw [if_neg (fun h => h hc0), if_neg (by omega), if_neg hd0]
      obtain ⟨hA, ha⟩ := hA1 hsE
      rw [hA, ha, hsE]
      have hw1 : ∀ k, k < j → 0 ≤ w k ∧ w k ≤ 100000 := fun k hk => by
        have k1 := fidx_neg hN k hk
        have k2 := hw k hk
        simp only [negW, BL] at k1
        omega
      have hs : 0 < S w j ∧ S w j ≤ 2400000 := by
        have := S_le (p := w) (k := j) (a := 0) (b := 100000) fun i hi => hw1 i (by omega)
        omega
      clear hA0 hA1 hB0 hB1 hsE huE hA ha hd0 hS ew ef hsv hsf hr1 hwA hwB
      generalize hd : S w j = d at *
      have hbs := fun k (hk : k < j) => bsH_b (i := k) hT hs.1 (hw1 k hk)
      have hwd : ∀ k, k < j → IntKind.i64.wrap ((IntKind.i64.wrap (T * w (k : Int).toNat)).tdiv d) = bsH T d w k := fun k hk => by
        have k1 := mul_T hT (hw1 k hk)
        have k2 := hbs k hk
        rw [Int.toNat_natCast, wr_id (x := T * w k) (by omega) (by omega)]
        exact wr_id (by unfold bsH at k2; omega) (by unfold bsH at k2; omega)
      have hwe : ∀ k, k < j → IntKind.i64.wrap (T - S (bsH T d w) k - bsH T d w k) = T - S (bsH T d w) (k + 1) := fun k hk => by
        have k1 := S_le (p := bsH T d w) (k := k) (a := 0) (b := 240000000000) fun z hz => hbs z (by omega)
        have k2 := hbs k hk
        rw [wr_id (by omega) (by omega)]
        simp only [S]
        omega
      have hs0 : T = T - S (bsH T d w) 0 := (Int.sub_zero T).symm
      refine sem_loop tab_ok gamHL_ok mixed (by kernel_rfl) (O := lex) (fun k : Nat => ⟨[(0, intV T), (1, .c (.sl 1 j (c1 w))), (9, .c (.sl 1 j (c1 (spF T j w)))), (10, intV 0), (14, intV d), (21, intV (T - S (bsH T d w) k)), (167, .c (.sl 1 j (c1 w))), (168, intV j), (169, intV k)], []⟩) (fun k => k ≤ j) (fun k => j - k) ⟨0, [], Nat.zero_le _, ?_⟩ fun k hk => ?_
      · refine Sub.of ?_ ?_ ?_
        repeat' (first | (refine And.intro ?_ ?_) | exact trivial | exact fun _ _ _ => hsc _ _ | (exact congrArg intV (by first | with_reducible rfl | with_reducible assumption)) | exact (rfl : AV.idsLt _ _ = true) | exact (rfl : _ = AV.ren _ (.own _)) | exact (rfl : _ = AV.ren _ (.fn _ _)) | exact (rfl : _ = AV.ren _ (.gh _)) | (exact congrArg intV (by assumption)) | (refine congrArg intV ((wr_id (by omega) (by omega)).trans (by omega))) | exact rfl | (simp only [Int.toNat_natCast, Int.toNat_zero, Nat.sub_zero, Nat.zero_add]; first | exact rfl | done) | exact all0 | exact fun h => Bool.noConfusion h | exact fun _ _ _ _ => rfl | omega)
      conv => whnf
      repeat' (first
        | (refine NilG.mk fun bn hbn => ?_; conv => whnf)
        | (refine Both.mk ?_ ?_ <;> conv => whnf)
        | exact trivial
        | (refine Br.mk (fun hb => ?_) (fun hb => ?_) <;> (first | (exfalso; revert hb; decide) | ((try simp only [BL] at hb) <;> (try simp only [DL] at hb) <;> conv => whnf)))
        | (refine And.intro ?_ ?_; (focus (first | exact id | exact rfl | exact trivial | (intro hg; first | exact hg | exact rfl | (simp; done) | (simp at hg ⊢; assumption)) | omega | decide | exact is2_c _ _ _ | exact is1_c _ _ | exact isS_c _ _ | exact isB_c _ _ | exact Nat.le_refl _ | assumption | exact mulLe (by decide) (by omega) | exact mulLe2 (by decide) (by omega) (by omega) | (intros; simp only [BL] at *; omega) | (intros; (try simp only [BL] at *); (try simp only [DL] at *); omega) | (intros; simp only [BL] at *; rw [wr_id (by omega) (by omega)]; omega) | (intros; simp_all; done))); conv => whnf)
        | (refine Or.inr (And.intro rfl ?_); first | (refine congrArg intV ?_) | (refine congrArg boolV ?_) | (refine tupII ?_ ?_) | (refine tupIII ?_ ?_ ?_) | (refine tupU ?_ ?_ ?_ ?_ ?_) | exact rfl))
      · have e1 := hwd k (by omega)
        have e2 := hwe k (by omega)
        have e3 : IntKind.i64.wrap (T - S (bsH T d w) k - IntKind.i64.wrap ((IntKind.i64.wrap (T * w (k : Int).toNat)).tdiv d)) = T - S (bsH T d w) (k + 1) := by rw [e1, e2]
        refine ⟨k + 1, [], by omega, by omega, ?_⟩
        refine Sub.of ?_ ?_ ?_
        repeat' (first | (refine And.intro ?_ ?_) | exact trivial | exact fun _ _ _ => hsc _ _ | (exact congrArg intV (by first | with_reducible rfl | with_reducible assumption)) | exact (rfl : AV.idsLt _ _ = true) | exact (rfl : _ = AV.ren _ (.own _)) | exact (rfl : _ = AV.ren _ (.fn _ _)) | exact (rfl : _ = AV.ren _ (.gh _)) | (exact congrArg intV (by assumption)) | (refine congrArg intV ((wr_id (by omega) (by omega)).trans (by omega))) | exact rfl | (simp only [Int.toNat_natCast, Int.toNat_zero, Nat.sub_zero, Nat.zero_add]; first | exact rfl | done) | exact all0 | exact fun h => Bool.noConfusion h | exact fun _ _ _ _ => rfl | omega)
      · exact absurd hb (by simp)
      have hkj : k = j := by omega
      rw [hkj]
      clear hb hs0 hwe
      have hwm : ∀ k, k < j → (IntKind.i64.wrap (T * w k)).tmod d = rmH T d w k := fun k hk => by
        have k1 := mul_T hT (hw1 k hk)
        rw [wr_id (x := T * w k) (by omega) (by omega)]
        rfl
      have hsp : ∀ i, spF T j w i = bsH T d w i + (if S (fun x => if sLt (fun k => -rmH T d w k) x i then 1 else 0) j < T - S (bsH T d w) j then 1 else 0) := fun i => by
        unfold spF rkH lfH
        rw [hd]
      refine sem_loop tab_ok gamHL_ok mixed (by kernel_rfl) (O := lex) (fun i : Nat => ⟨[(0, intV T), (1, .c (.sl 1 j (c1 w))), (9, .c (.sl 1 j (c1 (spF T j w)))), (14, intV d), (21, intV (T - S (bsH T d w) j)), (190, .c (.sl 1 j (c1 w))), (191, intV j), (192, intV i)], []⟩) (fun i => i ≤ j) (fun i => j - i) ⟨0, [], Nat.zero_le _, ?_⟩ fun i hi => ?_
      · refine Sub.of ?_ ?_ ?_
        repeat' (first | (refine And.intro ?_ ?_) | exact trivial | exact fun _ _ _ => hsc _ _ | (exact congrArg intV (by first | with_reducible rfl | with_reducible assumption)) | exact (rfl : AV.idsLt _ _ = true) | exact (rfl : _ = AV.ren _ (.own _)) | exact (rfl : _ = AV.ren _ (.fn _ _)) | exact (rfl : _ = AV.ren _ (.gh _)) | (exact congrArg intV (by assumption)) | (refine congrArg intV ((wr_id (by omega) (by omega)).trans (by omega))) | exact rfl | (simp only [Int.toNat_natCast, Int.toNat_zero, Nat.sub_zero, Nat.zero_add]; first | exact rfl | done) | exact all0 | exact fun h => Bool.noConfusion h | exact fun _ _ _ _ => rfl | omega)
      conv => whnf
      repeat' (first
        | (refine NilG.mk fun bn hbn => ?_; conv => whnf)
        | (refine Both.mk ?_ ?_ <;> conv => whnf)
        | exact trivial
        | (refine Br.mk (fun hb => ?_) (fun hb => ?_) <;> (first | (exfalso; revert hb; decide) | ((try simp only [BL] at hb) <;> (try simp only [DL] at hb) <;> conv => whnf)))
        | (refine And.intro ?_ ?_; (focus (first | exact id | exact rfl | exact trivial | (intro hg; first | exact hg | exact rfl | (simp; done) | (simp at hg ⊢; assumption)) | omega | decide | exact is2_c _ _ _ | exact is1_c _ _ | exact isS_c _ _ | exact isB_c _ _ | exact Nat.le_refl _ | assumption | exact mulLe (by decide) (by omega) | exact mulLe2 (by decide) (by omega) (by omega) | (intros; simp only [BL] at *; omega) | (intros; (try simp only [BL] at *); (try simp only [DL] at *); omega) | (intros; simp only [BL] at *; rw [wr_id (by omega) (by omega)]; omega) | (intros; simp_all; done))); conv => whnf)
        | (refine Or.inr (And.intro rfl ?_); first | (refine congrArg intV ?_) | (refine congrArg boolV ?_) | (refine tupII ?_ ?_) | (refine tupIII ?_ ?_ ?_) | (refine tupU ?_ ?_ ?_ ?_ ?_) | exact rfl))
      · have hij : i < j := by omega
        clear hb
        have e1 := hwd i hij
        have e5 : IntKind.i64.wrap ((IntKind.i64.wrap (T * w i)).tdiv d) = bsH T d w i := e1
        have mi := hwm i hij
        have hbi := hbs i hij
        have hspi := hsp i
        generalize hF : (fun x => if sLt (fun k => -rmH T d w k) x i then (1 : Int) else 0) = Fi at hspi
        have hFz : ∀ z, Fi z = if sLt (fun k => -rmH T d w k) z i then 1 else 0 := fun z => by rw [← hF]
        have hFb : ∀ z, 0 ≤ Fi z ∧ Fi z ≤ 1 := fun z => by rw [hFz]; split <;> omega
        refine sem_loop tab_ok gamHL_ok mixed (by kernel_rfl) (O := lex) (fun z : Nat => ⟨[(0, intV T), (1, .c (.sl 1 j (c1 w))), (9, .c (.sl 1 j (c1 (spF T j w)))), (14, intV d), (21, intV (T - S (bsH T d w) j)), (24, intV i), (25, intV (w i)), (26, intV (S Fi z)), (190, .c (.sl 1 j (c1 w))), (191, intV j), (192, intV i), (197, .c (.sl 1 j (c1 w))), (198, intV j), (199, intV z)], []⟩) (fun z => z ≤ j) (fun z => j - z) ⟨0, [], Nat.zero_le _, ?_⟩ fun z hz => ?_
        · refine Sub.of ?_ ?_ ?_
          repeat' (first | (refine And.intro ?_ ?_) | exact trivial | exact fun _ _ _ => hsc _ _ | (exact congrArg intV (by first | with_reducible rfl | with_reducible assumption)) | exact (rfl : AV.idsLt _ _ = true) | exact (rfl : _ = AV.ren _ (.own _)) | exact (rfl : _ = AV.ren _ (.fn _ _)) | exact (rfl : _ = AV.ren _ (.gh _)) | (exact congrArg intV (by assumption)) | (refine congrArg intV ((wr_id (by omega) (by omega)).trans (by omega))) | exact rfl | (simp only [Int.toNat_natCast, Int.toNat_zero, Nat.sub_zero, Nat.zero_add]; first | exact rfl | done) | exact all0 | exact fun h => Bool.noConfusion h | exact fun _ _ _ _ => rfl | omega)
        have hSz := S_le (p := Fi) (k := z) (a := 0) (b := 1) fun x _ => hFb x
        have hz1 : S Fi (z + 1) = S Fi z + Fi z := rfl
        have hzf := hFz z
        conv => whnf
        repeat' (first
          | (refine NilG.mk fun bn hbn => ?_; conv => whnf)
          | (refine Both.mk ?_ ?_ <;> conv => whnf)
          | exact trivial
          | (refine Br.mk (fun hb => ?_) (fun hb => ?_) <;> (first | (exfalso; revert hb; decide) | ((try simp only [BL] at hb) <;> (try simp only [DL] at hb) <;> conv => whnf)))
          | (refine And.intro ?_ ?_; (focus (first | exact id | exact rfl | exact trivial | (intro hg; first | exact hg | exact rfl | (simp; done) | (simp at hg ⊢; assumption)) | omega | decide | exact is2_c _ _ _ | exact is1_c _ _ | exact isS_c _ _ | exact isB_c _ _ | exact Nat.le_refl _ | assumption | exact mulLe (by decide) (by omega) | exact mulLe2 (by decide) (by omega) (by omega) | (intros; simp only [BL] at *; omega) | (intros; (try simp only [BL] at *); (try simp only [DL] at *); omega) | (intros; simp only [BL] at *; rw [wr_id (by omega) (by omega)]; omega) | (intros; simp_all; done))); conv => whnf)
          | (refine Or.inr (And.intro rfl ?_); first | (refine congrArg intV ?_) | (refine congrArg boolV ?_) | (refine tupII ?_ ?_) | (refine tupIII ?_ ?_ ?_) | (refine tupU ?_ ?_ ?_ ?_ ?_) | exact rfl))
        · have hzj : z < j := by omega
          rw [hwm z hzj, mi] at hb
          have hF1 : Fi z = 1 := by rw [hzf, if_pos (by unfold sLt; dsimp only; omega)]
          have e4 : IntKind.i64.wrap (S Fi z + 1) = S Fi (z + 1) := by rw [hz1, hF1]; exact wr_id (by omega) (by omega)
          refine ⟨z + 1, [], by omega, by omega, ?_⟩
          refine Sub.of ?_ ?_ ?_
          repeat' (first | (refine And.intro ?_ ?_) | exact trivial | exact fun _ _ _ => hsc _ _ | (exact congrArg intV (by first | with_reducible rfl | with_reducible assumption)) | exact (rfl : AV.idsLt _ _ = true) | exact (rfl : _ = AV.ren _ (.own _)) | exact (rfl : _ = AV.ren _ (.fn _ _)) | exact (rfl : _ = AV.ren _ (.gh _)) | (exact congrArg intV (by assumption)) | (refine congrArg intV ((wr_id (by omega) (by omega)).trans (by omega))) | exact rfl | (simp only [Int.toNat_natCast, Int.toNat_zero, Nat.sub_zero, Nat.zero_add]; first | exact rfl | done) | exact all0 | exact fun h => Bool.noConfusion h | exact fun _ _ _ _ => rfl | omega)
        · have hzj : z < j := by omega
          rw [hwm z hzj, mi] at hb
          have hF1 : Fi z = 0 := by rw [hzf, if_neg (by unfold sLt; dsimp only; omega)]
          have e4 : S Fi z = S Fi (z + 1) := by rw [hz1, hF1, Int.add_zero]
          refine ⟨z + 1, [], by omega, by omega, ?_⟩
          refine Sub.of ?_ ?_ ?_
          repeat' (first | (refine And.intro ?_ ?_) | exact trivial | exact fun _ _ _ => hsc _ _ | (exact congrArg intV (by first | with_reducible rfl | with_reducible assumption)) | exact (rfl : AV.idsLt _ _ = true) | exact (rfl : _ = AV.ren _ (.own _)) | exact (rfl : _ = AV.ren _ (.fn _ _)) | exact (rfl : _ = AV.ren _ (.gh _)) | (exact congrArg intV (by assumption)) | (refine congrArg intV ((wr_id (by omega) (by omega)).trans (by omega))) | exact rfl | (simp only [Int.toNat_natCast, Int.toNat_zero, Nat.sub_zero, Nat.zero_add]; first | exact rfl | done) | exact all0 | exact fun h => Bool.noConfusion h | exact fun _ _ _ _ => rfl | omega)
        · rename_i hlt
          have hzj : z = j := by omega
          rw [hzj] at hlt
          rw [e5, hspi, if_pos hlt, wr_id (x := bsH T d w i + 1) (by omega) (by omega)] at hb
          exact absurd rfl hb
        · refine ⟨i + 1, [], by omega, by omega, ?_⟩
          refine Sub.of ?_ ?_ ?_
          repeat' (first | (refine And.intro ?_ ?_) | exact trivial | exact fun _ _ _ => hsc _ _ | (exact congrArg intV (by first | with_reducible rfl | with_reducible assumption)) | exact (rfl : AV.idsLt _ _ = true) | exact (rfl : _ = AV.ren _ (.own _)) | exact (rfl : _ = AV.ren _ (.fn _ _)) | exact (rfl : _ = AV.ren _ (.gh _)) | (exact congrArg intV (by assumption)) | (refine congrArg intV ((wr_id (by omega) (by omega)).trans (by omega))) | exact rfl | (simp only [Int.toNat_natCast, Int.toNat_zero, Nat.sub_zero, Nat.zero_add]; first | exact rfl | done) | exact all0 | exact fun h => Bool.noConfusion h | exact fun _ _ _ _ => rfl | omega)
        · rename_i hlt
          have hzj : z = j := by omega
          rw [hzj] at hlt
          rw [e5, hspi, if_neg (by omega), Int.add_zero] at hb
          exact absurd rfl hb
        · refine ⟨i + 1, [], by omega, by omega, ?_⟩
          refine Sub.of ?_ ?_ ?_
          repeat' (first | (refine And.intro ?_ ?_) | exact trivial | exact fun _ _ _ => hsc _ _ | (exact congrArg intV (by first | with_reducible rfl | with_reducible assumption)) | exact (rfl : AV.idsLt _ _ = true) | exact (rfl : _ = AV.ren _ (.own _)) | exact (rfl : _ = AV.ren _ (.fn _ _)) | exact (rfl : _ = AV.ren _ (.gh _)) | (exact congrArg intV (by assumption)) | (refine congrArg intV ((wr_id (by omega) (by omega)).trans (by omega))) | exact rfl | (simp only [Int.toNat_natCast, Int.toNat_zero, Nat.sub_zero, Nat.zero_add]; first | exact rfl | done) | exact all0 | exact fun h => Bool.noConfusion h | exact fun _ _ _ _ => rfl | omega)
      · rfl

theorem hoursSpreads_own : ownKnob Try.prog.godebug = none := by kernel_rfl
theorem hoursSpreads_laid : laidOutB Try.prog = true := by kernel_rfl

set_option maxRecDepth 100000 in
theorem hoursSpreads_lifted (os : Os) (started : os.Started) (H : Type) (enc : TypeId × Value → H) :
    ReturnsInHanded {} Try.checked os 6 .any (Rows.hoursSpreadsSpec.pre6 enc Try.prog Try.f6 Rows.hoursSpreadsRow.domain false) (Rows.hoursSpreadsSpec.post enc Try.prog Try.f6 false true false false) := by
  refine returnsInHanded_of_change (C := Try.checked) hoursSpreads_own started (by kernel_rfl) Try.func6
    (ChangeSpec.witness6 (enc := enc) (C := Try.checked) false ⟨#[], #[.int .i64 0, .slice none 0 0, .int .i64 0], []⟩ 8 (by kernel_rfl) (by kernel_rfl) (by kernel_rfl) (by kernel_rfl)) ?_
  intro W base args ds gs before hval0 hW hcnd _
  have hval : ∀ (j : Nat) t v, Try.f6.params[j]? = some t → args[j]? = some v → Value.okWide Try.prog W .any base t v := hval0
  have hW' : DataW.Whole enc Try.prog Try.f6.params.toList Rows.hoursSpreadsSpec.vars false W args.toList ds gs before := hW
  exact law_post (P := Try.prog) [.i .i64, .sl (.i .i64), .i .i64] (by kernel_rfl) hoursSpreads_laid (by kernel_rfl) rfl (tb := 4) rfl (by kernel_rfl) (fun ds h => by
    match ds, h with
    | [d1, d2, d3], _ => rfl) (fun x hx => hsLaw x.1 x.2.1.1 (fun k => x.2.1.2 k) x.2.2.1 hx.2.1.1) W args ds gs before hval hW'

theorem hoursSpreads_holds : Rows.HoursSpreadsSaid :=
  OpenClaim.holds_of_wide 6 Try.f6 rfl rfl rfl rfl rfl rfl rfl ⟨rfl, rfl, rfl, rfl, rfl⟩ rfl rfl rfl rfl rfl (by kernel_rfl) Try.func6 (by kernel_rfl)
    (of_decide_eq_true (by kernel_rfl)) (by unfold Func.isWrapper; rw [if_neg (by decide +kernel)]; exact ⟨rfl, rfl⟩)
    (fun os started H enc _ => hoursSpreads_lifted os started H enc)
end Go.Proofs.Ytdakikgebfphmaa
