/-
  The package dispatch: check, Best.
-/
import Derived.Test.YtdakikgebfphmaaDsp
import Derived.Test.YtdakikgebfphmaaSrt5Dsp
import Derived.Test.YtdakikgebfphmaaBlkQ
namespace Go.Proofs.Ytdakikgebfphmaa
open Go.RowKit

/-- what an offer has -/
def oS (m : Nat → Nat) (p : Nat → Nat → Int) (k : Nat) : Int := S (p k) (m k)
def dckE (n : Nat) (s : Nat → ByteArray) (m : Nat → Nat) (p q : Nat → Nat → Int) (T : Int) : Int :=
  if offsE n s m p q ≠ 0 then offsE n s m p q else if T < 0 ∨ 1000000 < T then 4 else if S (oS m p) n < T then 8 else 0
theorem oS_le {n : Nat} {s : Nat → ByteArray} {m : Nat → Nat} {p q : Nat → Nat → Int} (h : offsE n s m p q = 0) {k : Nat} (hk : k ≤ n) : 0 ≤ S (oS m p) k ∧ S (oS m p) k ≤ 1000000 := by
  obtain ⟨hn, hall⟩ := offsE_zero h
  have := S_le (p := oS m p) (a := 0) (b := 100000) (k := k) fun i hi => ⟨(hall i (by omega)).2.2.2, (hall i (by omega)).2.2.1⟩
  omega
def gamQ1 : Gam := fun f => match f with
  | 73 => some (sOl fun n s m p q => intV (offsE n s m p q))
  | 76 => some (sO (fun _ n p q => okOff n p q) fun _ n p _ => intV (S p n))
  | _ => none
theorem gamQ1_ok : GOk Try.prog gamQ1 := fun f g h => by
  unfold gamQ1 at h
  split at h
  · injection h with h; subst h; exact sOl_ok fun s m p q n h1 h2 => checkAll s m p q n h1 h2
  · injection h with h; subst h; exact sO_ok offSum
  · cases h
theorem dspChk (s : Nat → ByteArray) (m : Nat → Nat) (p q : Nat → Nat → Int) (n : Nat) (T : Int) (hn : n ≤ maxLen) (hk : ∀ k, k < n → (s k).size ≤ maxLen ∧ m k ≤ maxLen) :
    Fn1 Try.prog 100 [.c (.sl 2 n (cO s m p q)), intV T] (intV (dckE n s m p q T)) := by
  refine fn_of_wpx (O := lex) tab_ok gamQ1_ok mixed Try.func100 (by kernel_rfl) rfl rfl rfl (by simp [Try.ntmps100]) (by kernel_rfl) ?_
  have hn' : n ≤ 9223372036854775807 := hn
  conv => whnf
  repeat' (first
    | (refine NilG.mk fun bn hbn => ?_; conv => whnf)
    | (refine Both.mk ?_ ?_ <;> conv => whnf)
    | exact trivial
    | (refine Br.mk (fun hb => ?_) (fun hb => ?_) <;> (first | (exfalso; revert hb; decide) | ((try simp only [BL] at hb) <;> (try simp only [DL] at hb) <;> conv => whnf)))
    | (refine And.intro ?_ ?_; (focus (first | exact id | exact rfl | exact trivial | (intro hg; first | exact hg | exact rfl | (simp; done) | (simp at hg ⊢; assumption)) | omega | decide | exact is2_c _ _ _ | exact is1_c _ _ | exact isS_c _ _ | exact isB_c _ _ | exact Nat.le_refl _ | assumption | exact mulLe (by decide) (by omega) | exact mulLe2 (by decide) (by omega) (by omega) | (intros; simp only [BL] at *; omega) | (intros; (try simp only [BL] at *); (try simp only [DL] at *); omega) | (intros; simp only [BL] at *; rw [wr_id (by omega) (by omega)]; omega) | (intros; simp_all; done) | exact isO_c hn hk)); conv => whnf)
    | (refine Or.inr (And.intro rfl ?_); first | (refine congrArg intV ?_) | (refine congrArg boolV ?_) | (refine tupII ?_ ?_) | (refine tupIII ?_ ?_ ?_) | (refine tupU ?_ ?_ ?_ ?_ ?_) | exact rfl))
  · have h0 : ¬ offsE n s m p q = 0 := hb
    exact (if_pos h0).symm
  have h0 : offsE n s m p q = 0 := hb
  obtain ⟨hn10, hall⟩ := offsE_zero h0
  clear hb
  refine sem_loop tab_ok gamQ1_ok mixed (by kernel_rfl) (O := lex) (fun i : Nat => ⟨[(1, intV T), (6, intV (S (oS m p) i)), (14, .c (.sl 2 n (cO s m p q))), (15, intV n), (16, intV i)], []⟩) (fun i => i ≤ n) (fun i => n - i) ⟨0, [], Nat.zero_le _, ?_⟩ fun i hi => ?_
  · refine Sub.of ?_ ?_ ?_
    repeat' (first | (refine And.intro ?_ ?_) | exact trivial | exact fun _ _ _ => hsc _ _ | (exact congrArg intV (by first | with_reducible rfl | with_reducible assumption)) | exact (rfl : AV.idsLt _ _ = true) | exact (rfl : _ = AV.ren _ (.own _)) | exact (rfl : _ = AV.ren _ (.fn _ _)) | exact (rfl : _ = AV.ren _ (.gh _)) | (exact congrArg intV (by assumption)) | (refine congrArg intV ((wr_id (by omega) (by omega)).trans (by omega))) | exact rfl | (simp only [Int.toNat_natCast, Int.toNat_zero, Nat.sub_zero, Nat.zero_add]; first | exact rfl | done) | exact all0 | exact fun h => Bool.noConfusion h | exact fun _ _ _ _ => rfl | omega)
  have ew : i < n → IntKind.i64.wrap (S (oS m p) i + S (p i) (m i)) = S (oS m p) (i + 1) := fun h => by
    have k1 := oS_le h0 (k := i) (by omega)
    have k2 := oS_le h0 (k := i + 1) (by omega)
    have k3 : S (oS m p) (i + 1) = S (oS m p) i + S (p i) (m i) := rfl
    rw [k3] at k2 ⊢
    exact wr_id (by omega) (by omega)
  conv => whnf
  repeat' (first
    | (refine NilG.mk fun bn hbn => ?_; conv => whnf)
    | (refine Both.mk ?_ ?_ <;> conv => whnf)
    | exact trivial
    | (refine Br.mk (fun hb => ?_) (fun hb => ?_) <;> (first | (exfalso; revert hb; decide) | ((try simp only [BL] at hb) <;> (try simp only [DL] at hb) <;> conv => whnf)))
    | (refine And.intro ?_ ?_; (focus (first | exact id | exact rfl | exact trivial | (intro hg; first | exact hg | exact rfl | (simp; done) | (simp at hg ⊢; assumption)) | omega | decide | exact is2_c _ _ _ | exact is1_c _ _ | exact isS_c _ _ | exact isB_c _ _ | exact Nat.le_refl _ | assumption | exact mulLe (by decide) (by omega) | exact mulLe2 (by decide) (by omega) (by omega) | (intros; simp only [BL] at *; omega) | (intros; (try simp only [BL] at *); (try simp only [DL] at *); omega) | (intros; simp only [BL] at *; rw [wr_id (by omega) (by omega)]; omega) | (intros; simp_all; done) | exact ⟨is2_c _ _ _, (hall i (by omega)).2.1⟩)); conv => whnf)
    | (refine Or.inr (And.intro rfl ?_); first | (refine congrArg intV ?_) | (refine congrArg boolV ?_) | (refine tupII ?_ ?_) | (refine tupIII ?_ ?_ ?_) | (refine tupU ?_ ?_ ?_ ?_ ?_) | exact rfl))
  · have ew := ew (by omega)
    refine ⟨i + 1, [], by omega, by omega, ?_⟩
    refine Sub.of ?_ ?_ ?_
    repeat' (first | (refine And.intro ?_ ?_) | exact trivial | exact fun _ _ _ => hsc _ _ | (exact congrArg intV (by first | with_reducible rfl | with_reducible assumption)) | exact (rfl : AV.idsLt _ _ = true) | exact (rfl : _ = AV.ren _ (.own _)) | exact (rfl : _ = AV.ren _ (.fn _ _)) | exact (rfl : _ = AV.ren _ (.gh _)) | (exact congrArg intV (by assumption)) | (refine congrArg intV ((wr_id (by omega) (by omega)).trans (by omega))) | exact rfl | (simp only [Int.toNat_natCast, Int.toNat_zero, Nat.sub_zero, Nat.zero_add]; first | exact rfl | done) | exact all0 | exact fun h => Bool.noConfusion h | exact fun _ _ _ _ => rfl | omega)
  · have hin : i = n := by omega
    subst hin
    unfold dckE; rw [if_neg (fun h => h h0), if_pos (by omega)]
  · have hin : i = n := by omega
    subst hin
    unfold dckE; rw [if_neg (fun h => h h0), if_neg (by omega), if_pos (by omega)]
  · have hin : i = n := by omega
    subst hin
    unfold dckE; rw [if_neg (fun h => h h0), if_neg (by omega), if_neg (by omega)]
end Go.Proofs.Ytdakikgebfphmaa
