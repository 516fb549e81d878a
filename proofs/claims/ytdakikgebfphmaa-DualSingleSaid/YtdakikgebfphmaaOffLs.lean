/-
  Lists of offers: CheckAll and the reference's error of a list.
-/
import Derived.Test.YtdakikgebfphmaaOffTwo
namespace Go.Proofs.Ytdakikgebfphmaa
open Go.RowKit

/-- a list of offers -/
def cO (s : Nat → ByteArray) (m : Nat → Nat) (p q : Nat → Nat → Int) : Nat → Nat → L := fun k j => [sL (s k), .sl 2 (m k) (c2 (p k) (q k))].getD j .un
def oM (f : Nat → Nat → L) : Nat → Nat := fun k => lN (f k 1)
def oP (f : Nat → Nat → L) : Nat → Nat → Int := fun k => d0 (lF (f k 1))
def oQ (f : Nat → Nat → L) : Nat → Nat → Int := fun k => d1 (lF (f k 1))
/-- f is a list of offers -/
def isO (n : Nat) (f : Nat → Nat → L) : Prop := ShL n 2 f (cO (dS f) (oM f) (oP f) (oQ f)) ∧ n ≤ maxLen ∧ ∀ k, k < n → (dS f k).size ≤ maxLen ∧ oM f k ≤ maxLen

theorem f85 (s nm : ByteArray) (n : Nat) (p q : Nat → Int) (l : L) : Fn1 Try.prog 115 [offV s n p q, .xp 2 fun j => [sL nm, l].getD j .un] (boolV (s.toList == nm.toList)) := by
  refine fn_of_wpx (O := lex) tab_ok gamO1_ok mixed Try.func115 (by kernel_rfl) rfl rfl rfl (by simp [Try.ntmps115]) (by kernel_rfl) ?_
  conv => whnf
  repeat' (first
    | (refine NilG.mk fun bn hbn => ?_; conv => whnf)
    | (refine Both.mk ?_ ?_ <;> conv => whnf)
    | exact trivial
    | (refine Br.mk (fun hb => ?_) (fun hb => ?_) <;> (first | (exfalso; revert hb; decide) | ((try simp only [BL] at hb) <;> (try simp only [DL] at hb) <;> conv => whnf)))
    | (refine And.intro ?_ ?_; (focus (first | exact id | exact rfl | exact trivial | (intro hg; first | exact hg | exact rfl | (simp; done) | (simp at hg ⊢; assumption)) | omega | decide | exact is2_c _ _ _ | exact is1_c _ _ | exact isS_c _ _ | exact isB_c _ _ | exact Nat.le_refl _ | assumption | exact mulLe (by decide) (by omega) | exact mulLe2 (by decide) (by omega) (by omega) | (intros; simp only [BL] at *; omega) | (intros; (try simp only [BL] at *); (try simp only [DL] at *); omega) | (intros; simp only [BL] at *; rw [wr_id (by omega) (by omega)]; omega) | (intro h1 h2; exact Bool.and_eq_true_iff.2 ⟨h1, h2⟩) | (intros; simp_all; done))); conv => whnf)
    | (refine Or.inr (And.intro rfl ?_); first | (refine congrArg intV ?_) | (refine congrArg boolV ?_) | (refine tupII ?_ ?_) | (refine tupIII ?_ ?_ ?_) | (refine tupU ?_ ?_ ?_ ?_ ?_) | exact rfl))
  · rfl

theorem idxO (s : Nat → ByteArray) (m : Nat → Nat) (p q : Nat → Nat → Int) (n : Nat) (nm : ByteArray) (l : L) (hn : n ≤ maxLen) : Fn1 Try.prog 138 [.c (.sl 2 n (cO s m p q)), .fn 115 [.xp 2 fun j => [sL nm, l].getD j .un]] (intV (fidx (sameN s nm) n)) := by
  refine fn_of_wpx (O := lex) tab_ok gamO1_ok mixed Try.func138 (by kernel_rfl) rfl rfl rfl (by simp [Try.ntmps138]) (by kernel_rfl) ?_
  have hn' : n ≤ 9223372036854775807 := hn
  conv => whnf
  repeat' (first
    | (refine NilG.mk fun bn hbn => ?_; conv => whnf)
    | (refine Both.mk ?_ ?_ <;> conv => whnf)
    | exact trivial
    | (refine Br.mk (fun hb => ?_) (fun hb => ?_) <;> (first | (exfalso; revert hb; decide) | ((try simp only [BL] at hb) <;> (try simp only [DL] at hb) <;> conv => whnf)))
    | (refine And.intro ?_ ?_; (focus (first | exact id | exact rfl | exact trivial | (intro hg; first | exact hg | exact rfl | (simp; done) | (simp at hg ⊢; assumption)) | omega | decide | exact is2_c _ _ _ | exact is1_c _ _ | exact isS_c _ _ | exact isB_c _ _ | exact Nat.le_refl _ | assumption | exact mulLe (by decide) (by omega) | exact mulLe2 (by decide) (by omega) (by omega) | (intros; simp only [BL] at *; omega) | (intros; (try simp only [BL] at *); (try simp only [DL] at *); omega) | (intros; simp only [BL] at *; rw [wr_id (by omega) (by omega)]; omega) | (intro h1 h2; exact Bool.and_eq_true_iff.2 ⟨h1, h2⟩) | (intros; simp_all; done))); conv => whnf)
    | (refine Or.inr (And.intro rfl ?_); first | (refine congrArg intV ?_) | (refine congrArg boolV ?_) | (refine tupII ?_ ?_) | (refine tupIII ?_ ?_ ?_) | (refine tupU ?_ ?_ ?_ ?_ ?_) | exact rfl))
  refine sem_loop tab_ok gamO1_ok mixed (by kernel_rfl) (O := lex) (fun i : Nat => ⟨[(8, intV i), (7, intV n), (0, .c (.sl 2 n (cO s m p q))), (1, .fn 115 [.xp 2 fun j => [sL nm, l].getD j .un])], []⟩) (fun i => i ≤ n ∧ ∀ k, k < i → sameN s nm k = false) (fun i => n - i) ⟨0, [], ⟨Nat.zero_le _, fun k hk => absurd hk (Nat.not_lt_zero _)⟩, ?_⟩ fun i hi => ?_
  · repeat' (first | (refine And.intro ?_ ?_) | exact trivial | exact fun _ _ _ => hsc _ _ | (exact congrArg intV (by first | with_reducible rfl | with_reducible assumption)) | exact (rfl : AV.idsLt _ _ = true) | exact (rfl : _ = AV.ren _ (.own _)) | exact (rfl : _ = AV.ren _ (.fn _ _)) | exact (rfl : _ = AV.ren _ (.gh _)) | (exact congrArg intV (by assumption)) | (refine congrArg intV ((wr_id (by omega) (by omega)).trans (by omega))) | exact rfl | (simp only [Int.toNat_natCast, Int.toNat_zero, Nat.sub_zero, Nat.zero_add]; first | exact rfl | done))
  conv => whnf
  repeat' (first
    | (refine NilG.mk fun bn hbn => ?_; conv => whnf)
    | (refine Both.mk ?_ ?_ <;> conv => whnf)
    | exact trivial
    | (refine Br.mk (fun hb => ?_) (fun hb => ?_) <;> (first | (exfalso; revert hb; decide) | ((try simp only [BL] at hb) <;> (try simp only [DL] at hb) <;> conv => whnf)))
    | (refine And.intro ?_ ?_; (focus (first | exact id | exact rfl | exact trivial | (intro hg; first | exact hg | exact rfl | (simp; done) | (simp at hg ⊢; assumption)) | omega | decide | exact is2_c _ _ _ | exact is1_c _ _ | exact isS_c _ _ | exact isB_c _ _ | exact Nat.le_refl _ | assumption | exact mulLe (by decide) (by omega) | exact mulLe2 (by decide) (by omega) (by omega) | (intros; simp only [BL] at *; omega) | (intros; (try simp only [BL] at *); (try simp only [DL] at *); omega) | (intros; simp only [BL] at *; rw [wr_id (by omega) (by omega)]; omega) | (intro h1 h2; exact Bool.and_eq_true_iff.2 ⟨h1, h2⟩) | (intros; simp_all; done))); conv => whnf)
    | (refine Or.inr (And.intro rfl ?_); first | (refine congrArg intV ?_) | (refine congrArg boolV ?_) | (refine tupII ?_ ?_) | (refine tupIII ?_ ?_ ?_) | (refine tupU ?_ ?_ ?_ ?_ ?_) | exact rfl))
  · refine CallG.mk (Fn.mono (f85 _ _ _ _ _ _) ?_)
    rintro obs r ⟨rfl, rfl⟩
    conv => whnf
    repeat' (first
      | (refine NilG.mk fun bn hbn => ?_; conv => whnf)
      | (refine Both.mk ?_ ?_ <;> conv => whnf)
      | exact trivial
      | (refine Br.mk (fun hb => ?_) (fun hb => ?_) <;> (first | (exfalso; revert hb; decide) | ((try simp only [BL] at hb) <;> (try simp only [DL] at hb) <;> conv => whnf)))
      | (refine And.intro ?_ ?_; (focus (first | exact id | exact rfl | exact trivial | (intro hg; first | exact hg | exact rfl | (simp; done) | (simp at hg ⊢; assumption)) | omega | decide | exact is2_c _ _ _ | exact is1_c _ _ | exact isS_c _ _ | exact isB_c _ _ | exact Nat.le_refl _ | assumption | exact mulLe (by decide) (by omega) | exact mulLe2 (by decide) (by omega) (by omega) | (intros; simp only [BL] at *; omega) | (intros; (try simp only [BL] at *); (try simp only [DL] at *); omega) | (intros; simp only [BL] at *; rw [wr_id (by omega) (by omega)]; omega) | (intro h1 h2; exact Bool.and_eq_true_iff.2 ⟨h1, h2⟩) | (intros; simp_all; done))); conv => whnf)
      | (refine Or.inr (And.intro rfl ?_); first | (refine congrArg intV ?_) | (refine congrArg boolV ?_) | (refine tupII ?_ ?_) | (refine tupIII ?_ ?_ ?_) | (refine tupU ?_ ?_ ?_ ?_ ?_) | exact rfl))
    · exact (fidx_at hi.2 hb (by omega)).symm
    · refine ⟨i + 1, [], ⟨by omega, fun k hk => ?_⟩, by omega, ?_⟩
      · rcases Nat.lt_succ_iff_lt_or_eq.1 hk with h | rfl
        · exact hi.2 k h
        · exact hb
      · repeat' (first | (refine And.intro ?_ ?_) | exact trivial | exact fun _ _ _ => hsc _ _ | (exact congrArg intV (by first | with_reducible rfl | with_reducible assumption)) | exact (rfl : AV.idsLt _ _ = true) | exact (rfl : _ = AV.ren _ (.own _)) | exact (rfl : _ = AV.ren _ (.fn _ _)) | exact (rfl : _ = AV.ren _ (.gh _)) | (exact congrArg intV (by assumption)) | (refine congrArg intV ((wr_id (by omega) (by omega)).trans (by omega))) | exact rfl | (simp only [Int.toNat_natCast, Int.toNat_zero, Nat.sub_zero, Nat.zero_add]; first | exact rfl | done))
  · obtain rfl : i = n := by omega
    exact (fidx_none hi.2).symm

theorem contO (s : Nat → ByteArray) (m : Nat → Nat) (p q : Nat → Nat → Int) (n : Nat) (nm : ByteArray) (l : L) (hn : n ≤ maxLen) : Fn1 Try.prog 114 [.c (.sl 2 n (cO s m p q)), .fn 115 [.xp 2 fun j => [sL nm, l].getD j .un]] (boolV (dupB s nm n)) := by
  refine fn_of_wpx (O := lex) tab_ok gamO1_ok mixed Try.func114 (by kernel_rfl) rfl rfl rfl (by simp [Try.ntmps114]) (by kernel_rfl) ?_
  conv => whnf
  repeat' (first
    | (refine NilG.mk fun bn hbn => ?_; conv => whnf)
    | (refine Both.mk ?_ ?_ <;> conv => whnf)
    | exact trivial
    | (refine Br.mk (fun hb => ?_) (fun hb => ?_) <;> (first | (exfalso; revert hb; decide) | ((try simp only [BL] at hb) <;> (try simp only [DL] at hb) <;> conv => whnf)))
    | (refine And.intro ?_ ?_; (focus (first | exact id | exact rfl | exact trivial | (intro hg; first | exact hg | exact rfl | (simp; done) | (simp at hg ⊢; assumption)) | omega | decide | exact is2_c _ _ _ | exact is1_c _ _ | exact isS_c _ _ | exact isB_c _ _ | exact Nat.le_refl _ | assumption | exact mulLe (by decide) (by omega) | exact mulLe2 (by decide) (by omega) (by omega) | (intros; simp only [BL] at *; omega) | (intros; (try simp only [BL] at *); (try simp only [DL] at *); omega) | (intros; simp only [BL] at *; rw [wr_id (by omega) (by omega)]; omega) | (intro h1 h2; exact Bool.and_eq_true_iff.2 ⟨h1, h2⟩) | (intros; simp_all; done))); conv => whnf)
    | (refine Or.inr (And.intro rfl ?_); first | (refine congrArg intV ?_) | (refine congrArg boolV ?_) | (refine tupII ?_ ?_) | (refine tupIII ?_ ?_ ?_) | (refine tupU ?_ ?_ ?_ ?_ ?_) | exact rfl))
  refine CallG.mk (Fn.mono (idxO s m p q n nm l hn) ?_)
  rintro obs r ⟨rfl, rfl⟩
  conv => whnf
  repeat' (first
    | (refine NilG.mk fun bn hbn => ?_; conv => whnf)
    | (refine Both.mk ?_ ?_ <;> conv => whnf)
    | exact trivial
    | (refine Br.mk (fun hb => ?_) (fun hb => ?_) <;> (first | (exfalso; revert hb; decide) | ((try simp only [BL] at hb) <;> (try simp only [DL] at hb) <;> conv => whnf)))
    | (refine And.intro ?_ ?_; (focus (first | exact id | exact rfl | exact trivial | (intro hg; first | exact hg | exact rfl | (simp; done) | (simp at hg ⊢; assumption)) | omega | decide | exact is2_c _ _ _ | exact is1_c _ _ | exact isS_c _ _ | exact isB_c _ _ | exact Nat.le_refl _ | assumption | exact mulLe (by decide) (by omega) | exact mulLe2 (by decide) (by omega) (by omega) | (intros; simp only [BL] at *; omega) | (intros; (try simp only [BL] at *); (try simp only [DL] at *); omega) | (intros; simp only [BL] at *; rw [wr_id (by omega) (by omega)]; omega) | (intro h1 h2; exact Bool.and_eq_true_iff.2 ⟨h1, h2⟩) | (intros; simp_all; done))); conv => whnf)
    | (refine Or.inr (And.intro rfl ?_); first | (refine congrArg intV ?_) | (refine congrArg boolV ?_) | (refine tupII ?_ ?_) | (refine tupIII ?_ ?_ ?_) | (refine tupU ?_ ?_ ?_ ?_ ?_) | exact rfl))
  · rfl

/-- the error of offer i of a list; of the list -/
def lsE (s : Nat → ByteArray) (m : Nat → Nat) (p q : Nat → Nat → Int) (i : Nat) : Int := if offE (s i) (m i) (p i) (q i) ≠ 0 then offE (s i) (m i) (p i) (q i) else if dupB s (s i) i = true then 7 else 0
def offsE (n : Nat) (s : Nat → ByteArray) (m : Nat → Nat) (p q : Nat → Nat → Int) : Int := if 10 < n then 2 else fst (lsE s m p q) n

def gamL1 : Gam := fun f => match f with
  | 90 => some (sO (fun s n _ _ => s.size ≤ maxLen ∧ n ≤ maxLen) fun s n p q => intV (offE s n p q))
  | 75 => some (sO (fun s n _ _ => s.size ≤ maxLen ∧ n ≤ maxLen) fun s n p q => intV (offE s n p q))
  | _ => none
theorem gamL1_ok : GOk Try.prog gamL1 := fun f g h => by
  unfold gamL1 at h
  split at h
  · injection h with h; subst h; exact sO_ok fun s n p q hp => offCheck s n p q hp.1 hp.2
  · injection h with h; subst h; exact sO_ok fun s n p q hp => offError s n p q hp.1 hp.2
  · cases h

theorem checkAll (s : Nat → ByteArray) (m : Nat → Nat) (p q : Nat → Nat → Int) (n : Nat) (hn : n ≤ maxLen) (hk : ∀ k, k < n → (s k).size ≤ maxLen ∧ m k ≤ maxLen) : Fn1 Try.prog 73 [.c (.sl 2 n (cO s m p q))] (intV (offsE n s m p q)) := by
  refine fn_of_wpx (O := lex) tab_ok gamL1_ok mixed Try.func73 (by kernel_rfl) rfl rfl rfl (by simp [Try.ntmps73]) (by kernel_rfl) ?_
  conv => whnf
  repeat' (first
    | (refine NilG.mk fun bn hbn => ?_; conv => whnf)
    | (refine Both.mk ?_ ?_ <;> conv => whnf)
    | exact trivial
    | (refine Br.mk (fun hb => ?_) (fun hb => ?_) <;> (first | (exfalso; revert hb; decide) | ((try simp only [BL] at hb) <;> (try simp only [DL] at hb) <;> conv => whnf)))
    | (refine And.intro ?_ ?_; (focus (first | exact id | exact rfl | exact trivial | (intro hg; first | exact hg | exact rfl | (simp; done) | (simp at hg ⊢; assumption)) | omega | decide | exact is2_c _ _ _ | exact is1_c _ _ | exact isS_c _ _ | exact isB_c _ _ | exact Nat.le_refl _ | assumption | exact mulLe (by decide) (by omega) | exact mulLe2 (by decide) (by omega) (by omega) | (intros; simp only [BL] at *; omega) | (intros; (try simp only [BL] at *); (try simp only [DL] at *); omega) | (intros; simp only [BL] at *; rw [wr_id (by omega) (by omega)]; omega) | (intro h1 h2; exact Bool.and_eq_true_iff.2 ⟨h1, h2⟩) | (intros; simp_all; done))); conv => whnf)
    | (refine Or.inr (And.intro rfl ?_); first | (refine congrArg intV ?_) | (refine congrArg boolV ?_) | (refine tupII ?_ ?_) | (refine tupIII ?_ ?_ ?_) | (refine tupU ?_ ?_ ?_ ?_ ?_) | exact rfl))
  · unfold offsE
    rw [if_pos (by omega)]
  have hE : offsE n s m p q = fst (lsE s m p q) n := by
    unfold offsE
    rw [if_neg (by omega)]
  rw [hE]
  have hn10 : n ≤ 10 := by omega
  clear hb
  refine sem_loop tab_ok gamL1_ok mixed (by kernel_rfl) (O := lex) (fun i : Nat => ⟨[(11, intV i), (10, intV n), (9, .c (.sl 2 n (cO s m p q))), (0, .c (.sl 2 n (cO s m p q)))], []⟩) (fun i => i ≤ n ∧ fst (lsE s m p q) i = 0) (fun i => n - i) ⟨0, [], ⟨Nat.zero_le _, rfl⟩, ?_⟩ fun i hi => ?_
  · repeat' (first | (refine And.intro ?_ ?_) | exact trivial | exact fun _ _ _ => hsc _ _ | (exact congrArg intV (by first | with_reducible rfl | with_reducible assumption)) | exact (rfl : AV.idsLt _ _ = true) | exact (rfl : _ = AV.ren _ (.own _)) | exact (rfl : _ = AV.ren _ (.fn _ _)) | exact (rfl : _ = AV.ren _ (.gh _)) | (exact congrArg intV (by assumption)) | (refine congrArg intV ((wr_id (by omega) (by omega)).trans (by omega))) | exact rfl | (simp only [Int.toNat_natCast, Int.toNat_zero, Nat.sub_zero, Nat.zero_add]; first | exact rfl | done))
  conv => whnf
  repeat' (first
    | (refine NilG.mk fun bn hbn => ?_; conv => whnf)
    | (refine Both.mk ?_ ?_ <;> conv => whnf)
    | exact trivial
    | (refine Br.mk (fun hb => ?_) (fun hb => ?_) <;> (first | (exfalso; revert hb; decide) | ((try simp only [BL] at hb) <;> (try simp only [DL] at hb) <;> conv => whnf)))
    | (refine And.intro ?_ ?_; (focus (first | exact id | exact rfl | exact trivial | (intro hg; first | exact hg | exact rfl | (simp; done) | (simp at hg ⊢; assumption)) | omega | decide | exact is2_c _ _ _ | exact is1_c _ _ | exact isS_c _ _ | exact isB_c _ _ | exact Nat.le_refl _ | assumption | exact mulLe (by decide) (by omega) | exact mulLe2 (by decide) (by omega) (by omega) | (intros; simp only [BL] at *; omega) | (intros; (try simp only [BL] at *); (try simp only [DL] at *); omega) | (intros; simp only [BL] at *; rw [wr_id (by omega) (by omega)]; omega) | (intro h1 h2; exact Bool.and_eq_true_iff.2 ⟨h1, h2⟩) | exact ⟨is2_c _ _ _, (hk i (by omega)).1, (hk i (by omega)).2⟩ | (intros; simp_all; done))); conv => whnf)
    | (refine Or.inr (And.intro rfl ?_); first | (refine congrArg intV ?_) | (refine congrArg boolV ?_) | (refine tupII ?_ ?_) | (refine tupIII ?_ ?_ ?_) | (refine tupU ?_ ?_ ?_ ?_ ?_) | exact rfl))
  · exact fst_eq hi.2 (by omega) (by simp only [lsE]; rw [if_pos hb]; rfl) hb
  · rename_i hlt
    have hin : i < n := by omega
    refine CallG.mk (Fn.mono ((contO s m p q i (s i) (.sl 2 (m i) (c2 (p i) (q i))) (by omega)).le (Le.cons (Le1.sl fun k _ j _ => ?_) (Le.cons (Le1.fn (Le.cons (Le1.xp fun j _ => LLe.of_eq ?_) Le.nil)) Le.nil))) ?_)
    · simp only [Int.toNat_zero, Nat.zero_add]
    · rw [Nat.zero_add]
      rfl
    rintro obs r ⟨rfl, rfl⟩
    conv => whnf
    repeat' (first
      | (refine NilG.mk fun bn hbn => ?_; conv => whnf)
      | (refine Both.mk ?_ ?_ <;> conv => whnf)
      | exact trivial
      | (refine Br.mk (fun hb => ?_) (fun hb => ?_) <;> (first | (exfalso; revert hb; decide) | ((try simp only [BL] at hb) <;> (try simp only [DL] at hb) <;> conv => whnf)))
      | (refine And.intro ?_ ?_; (focus (first | exact id | exact rfl | exact trivial | (intro hg; first | exact hg | exact rfl | (simp; done) | (simp at hg ⊢; assumption)) | omega | decide | exact is2_c _ _ _ | exact is1_c _ _ | exact isS_c _ _ | exact isB_c _ _ | exact Nat.le_refl _ | assumption | exact mulLe (by decide) (by omega) | exact mulLe2 (by decide) (by omega) (by omega) | (intros; simp only [BL] at *; omega) | (intros; (try simp only [BL] at *); (try simp only [DL] at *); omega) | (intros; simp only [BL] at *; rw [wr_id (by omega) (by omega)]; omega) | (intro h1 h2; exact Bool.and_eq_true_iff.2 ⟨h1, h2⟩) | (intros; simp_all; done))); conv => whnf)
      | (refine Or.inr (And.intro rfl ?_); first | (refine congrArg intV ?_) | (refine congrArg boolV ?_) | (refine tupII ?_ ?_) | (refine tupIII ?_ ?_ ?_) | (refine tupU ?_ ?_ ?_ ?_ ?_) | exact rfl))
    · exact fst_eq hi.2 hin (by simp only [lsE]; rw [if_neg (by simp; assumption), if_pos hb]) (by decide)
    · rename_i h0
      refine ⟨i + 1, [], ⟨by omega, fst_next hi.2 ?_⟩, by omega, ?_⟩
      · simp only [lsE]
        rw [if_neg (by simp; assumption), if_neg (by simp [hb])]
      · repeat' (first | (refine And.intro ?_ ?_) | exact trivial | exact fun _ _ _ => hsc _ _ | (exact congrArg intV (by first | with_reducible rfl | with_reducible assumption)) | exact (rfl : AV.idsLt _ _ = true) | exact (rfl : _ = AV.ren _ (.own _)) | exact (rfl : _ = AV.ren _ (.fn _ _)) | exact (rfl : _ = AV.ren _ (.gh _)) | (exact congrArg intV (by assumption)) | (refine congrArg intV ((wr_id (by omega) (by omega)).trans (by omega))) | exact rfl | (simp only [Int.toNat_natCast, Int.toNat_zero, Nat.sub_zero, Nat.zero_add]; first | exact rfl | done))
  · rw [show n = i by omega, hi.2]

theorem offsError (s : Nat → ByteArray) (m : Nat → Nat) (p q : Nat → Nat → Int) (n : Nat) (hn : n ≤ maxLen) (hk : ∀ k, k < n → (s k).size ≤ maxLen ∧ m k ≤ maxLen) : Fn1 Try.prog 25 [.c (.sl 2 n (cO s m p q))] (intV (offsE n s m p q)) := by
  refine fn_of_wpx (O := lex) tab_ok gamL1_ok mixed Try.func25 (by kernel_rfl) rfl rfl rfl (by simp [Try.ntmps25]) (by kernel_rfl) ?_
  conv => whnf
  repeat' (first
    | (refine NilG.mk fun bn hbn => ?_; conv => whnf)
    | (refine Both.mk ?_ ?_ <;> conv => whnf)
    | exact trivial
    | (refine Br.mk (fun hb => ?_) (fun hb => ?_) <;> (first | (exfalso; revert hb; decide) | ((try simp only [BL] at hb) <;> (try simp only [DL] at hb) <;> conv => whnf)))
    | (refine And.intro ?_ ?_; (focus (first | exact id | exact rfl | exact trivial | (intro hg; first | exact hg | exact rfl | (simp; done) | (simp at hg ⊢; assumption)) | omega | decide | exact is2_c _ _ _ | exact is1_c _ _ | exact isS_c _ _ | exact isB_c _ _ | exact Nat.le_refl _ | assumption | exact mulLe (by decide) (by omega) | exact mulLe2 (by decide) (by omega) (by omega) | (intros; simp only [BL] at *; omega) | (intros; (try simp only [BL] at *); (try simp only [DL] at *); omega) | (intros; simp only [BL] at *; rw [wr_id (by omega) (by omega)]; omega) | (intro h1 h2; exact Bool.and_eq_true_iff.2 ⟨h1, h2⟩) | (intros; simp_all; done))); conv => whnf)
    | (refine Or.inr (And.intro rfl ?_); first | (refine congrArg intV ?_) | (refine congrArg boolV ?_) | (refine tupII ?_ ?_) | (refine tupIII ?_ ?_ ?_) | (refine tupU ?_ ?_ ?_ ?_ ?_) | exact rfl))
  · unfold offsE
    rw [if_pos (by omega)]
  have hE : offsE n s m p q = fst (lsE s m p q) n := by
    unfold offsE
    rw [if_neg (by omega)]
  rw [hE]
  have hn10 : n ≤ 10 := by omega
  clear hb
  refine sem_loop tab_ok gamL1_ok mixed (by kernel_rfl) (O := lex) (fun i : Nat => ⟨[(13, intV i), (12, intV n), (11, .c (.sl 2 n (cO s m p q))), (0, .c (.sl 2 n (cO s m p q)))], []⟩) (fun i => i ≤ n ∧ fst (lsE s m p q) i = 0) (fun i => n - i) ⟨0, [], ⟨Nat.zero_le _, rfl⟩, ?_⟩ fun i hi => ?_
  · repeat' (first | (refine And.intro ?_ ?_) | exact trivial | exact fun _ _ _ => hsc _ _ | (exact congrArg intV (by first | with_reducible rfl | with_reducible assumption)) | exact (rfl : AV.idsLt _ _ = true) | exact (rfl : _ = AV.ren _ (.own _)) | exact (rfl : _ = AV.ren _ (.fn _ _)) | exact (rfl : _ = AV.ren _ (.gh _)) | (exact congrArg intV (by assumption)) | (refine congrArg intV ((wr_id (by omega) (by omega)).trans (by omega))) | exact rfl | (simp only [Int.toNat_natCast, Int.toNat_zero, Nat.sub_zero, Nat.zero_add]; first | exact rfl | done))
  conv => whnf
  repeat' (first
    | (refine NilG.mk fun bn hbn => ?_; conv => whnf)
    | (refine Both.mk ?_ ?_ <;> conv => whnf)
    | exact trivial
    | (refine Br.mk (fun hb => ?_) (fun hb => ?_) <;> (first | (exfalso; revert hb; decide) | ((try simp only [BL] at hb) <;> (try simp only [DL] at hb) <;> conv => whnf)))
    | (refine And.intro ?_ ?_; (focus (first | exact id | exact rfl | exact trivial | (intro hg; first | exact hg | exact rfl | (simp; done) | (simp at hg ⊢; assumption)) | omega | decide | exact is2_c _ _ _ | exact is1_c _ _ | exact isS_c _ _ | exact isB_c _ _ | exact Nat.le_refl _ | assumption | exact mulLe (by decide) (by omega) | exact mulLe2 (by decide) (by omega) (by omega) | (intros; simp only [BL] at *; omega) | (intros; (try simp only [BL] at *); (try simp only [DL] at *); omega) | (intros; simp only [BL] at *; rw [wr_id (by omega) (by omega)]; omega) | (intro h1 h2; exact Bool.and_eq_true_iff.2 ⟨h1, h2⟩) | exact ⟨is2_c _ _ _, (hk i (by omega)).1, (hk i (by omega)).2⟩ | (intros; simp_all; done))); conv => whnf)
    | (refine Or.inr (And.intro rfl ?_); first | (refine congrArg intV ?_) | (refine congrArg boolV ?_) | (refine tupII ?_ ?_) | (refine tupIII ?_ ?_ ?_) | (refine tupU ?_ ?_ ?_ ?_ ?_) | exact rfl))
  · exact fst_eq hi.2 (by omega) (by simp only [lsE]; rw [if_pos hb]; rfl) hb
  · rename_i hlt
    have hin : i < n := by omega
    have h0 := hb
    clear hb
    refine sem_loop tab_ok gamL1_ok mixed (by kernel_rfl) (O := lex) (fun j : Nat => ⟨[(27, intV j), (26, intV i), (25, .c (.sl 2 i (cO s m p q))), (4, .lp 0 0), (13, intV i), (12, intV n), (11, .c (.sl 2 n (cO s m p q))), (0, .c (.sl 2 n (cO s m p q)))], [.box [strV (s i), .c (.sl 2 (m i) (c2 (p i) (q i)))]]⟩) (fun j => j ≤ i ∧ ∀ k, k < j → sameN s (s i) k = false) (fun j => i - j) ⟨0, [0], ⟨Nat.zero_le _, fun k hk => absurd hk (Nat.not_lt_zero _)⟩, ?_⟩ fun j hj => ?_
    · repeat' (first | (refine And.intro ?_ ?_) | exact trivial | exact fun _ _ _ => hsc _ _ | (exact congrArg intV (by first | with_reducible rfl | with_reducible assumption)) | exact (rfl : AV.idsLt _ _ = true) | exact (rfl : _ = AV.ren _ (.own _)) | exact (rfl : _ = AV.ren _ (.fn _ _)) | exact (rfl : _ = AV.ren _ (.gh _)) | (exact congrArg intV (by assumption)) | (refine congrArg intV ((wr_id (by omega) (by omega)).trans (by omega))) | exact rfl | (simp only [Int.toNat_natCast, Int.toNat_zero, Nat.sub_zero, Nat.zero_add]; first | exact rfl | done))
    conv => whnf
    repeat' (first
      | (refine NilG.mk fun bn hbn => ?_; conv => whnf)
      | (refine Both.mk ?_ ?_ <;> conv => whnf)
      | exact trivial
      | (refine Br.mk (fun hb => ?_) (fun hb => ?_) <;> (first | (exfalso; revert hb; decide) | ((try simp only [BL] at hb) <;> (try simp only [DL] at hb) <;> conv => whnf)))
      | (refine And.intro ?_ ?_; (focus (first | exact id | exact rfl | exact trivial | (intro hg; first | exact hg | exact rfl | (simp; done) | (simp at hg ⊢; assumption)) | omega | decide | exact is2_c _ _ _ | exact is1_c _ _ | exact isS_c _ _ | exact isB_c _ _ | exact Nat.le_refl _ | assumption | exact mulLe (by decide) (by omega) | exact mulLe2 (by decide) (by omega) (by omega) | (intros; simp only [BL] at *; omega) | (intros; (try simp only [BL] at *); (try simp only [DL] at *); omega) | (intros; simp only [BL] at *; rw [wr_id (by omega) (by omega)]; omega) | (intro h1 h2; exact Bool.and_eq_true_iff.2 ⟨h1, h2⟩) | (intros; simp_all; done))); conv => whnf)
      | (refine Or.inr (And.intro rfl ?_); first | (refine congrArg intV ?_) | (refine congrArg boolV ?_) | (refine tupII ?_ ?_) | (refine tupIII ?_ ?_ ?_) | (refine tupU ?_ ?_ ?_ ?_ ?_) | exact rfl))
    · have hd : dupB s (s i) i = true := dup_true hj.2 hb (by omega)
      exact fst_eq hi.2 hin (by simp only [lsE]; rw [if_neg (by simp; exact h0), if_pos hd]) (by decide)
    · refine ⟨j + 1, [0], ⟨by omega, fun k hk => ?_⟩, by omega, ?_⟩
      · rcases Nat.lt_succ_iff_lt_or_eq.1 hk with h | rfl
        · exact hj.2 k h
        · exact hb
      · repeat' (first | (refine And.intro ?_ ?_) | exact trivial | exact fun _ _ _ => hsc _ _ | (exact congrArg intV (by first | with_reducible rfl | with_reducible assumption)) | exact (rfl : AV.idsLt _ _ = true) | exact (rfl : _ = AV.ren _ (.own _)) | exact (rfl : _ = AV.ren _ (.fn _ _)) | exact (rfl : _ = AV.ren _ (.gh _)) | (exact congrArg intV (by assumption)) | (refine congrArg intV ((wr_id (by omega) (by omega)).trans (by omega))) | exact rfl | (simp only [Int.toNat_natCast, Int.toNat_zero, Nat.sub_zero, Nat.zero_add]; first | exact rfl | done))
    · obtain rfl : j = i := by omega
      have hd : dupB s (s j) j = false := dup_false hj.2
      refine ⟨j + 1, [], ⟨by omega, fst_next hi.2 ?_⟩, by omega, ?_⟩
      · simp only [lsE]
        rw [if_neg (by simp; exact h0), if_neg (by simp [hd])]
      · repeat' (first | (refine And.intro ?_ ?_) | exact trivial | exact fun _ _ _ => hsc _ _ | (exact congrArg intV (by first | with_reducible rfl | with_reducible assumption)) | exact (rfl : AV.idsLt _ _ = true) | exact (rfl : _ = AV.ren _ (.own _)) | exact (rfl : _ = AV.ren _ (.fn _ _)) | exact (rfl : _ = AV.ren _ (.gh _)) | (exact congrArg intV (by assumption)) | (refine congrArg intV ((wr_id (by omega) (by omega)).trans (by omega))) | exact rfl | (simp only [Int.toNat_natCast, Int.toNat_zero, Nat.sub_zero, Nat.zero_add]; first | exact rfl | done))
  · rw [show n = i by omega, hi.2]

def sOl (g : Nat → (Nat → ByteArray) → (Nat → Nat) → (Nat → Nat → Int) → (Nat → Nat → Int) → AV) : List AV → Sd × AV
  | [.c (.sl 2 n f)] => (.p (isO n f), g n (dS f) (oM f) (oP f) (oQ f))
  | _ => (.p False, .top)
theorem sOl_ok {f : FuncId} {g} (h : ∀ s m p q n, n ≤ maxLen → (∀ k, k < n → (s k).size ≤ maxLen ∧ m k ≤ maxLen) → Fn1 Try.prog f [.c (.sl 2 n (cO s m p q))] (g n s m p q)) : ∀ args, (sOl g args).1.ok → (sOl g args).2.exact.isSome = true → Fn1 Try.prog f args (sOl g args).2 := fun args hs _ => by
  unfold sOl at hs ⊢
  split at hs
  · exact (h _ _ _ _ _ hs.2.1 hs.2.2).le (Le.cons (Le1.l (LLe.sl hs.1)) Le.nil)
  · exact hs.elim
theorem isO_c {n : Nat} {s : Nat → ByteArray} {m : Nat → Nat} {p q : Nat → Nat → Int} (hn : n ≤ maxLen) (hk : ∀ k, k < n → (s k).size ≤ maxLen ∧ m k ≤ maxLen) : isO n (cO s m p q) :=
  ⟨fun _ _ _ _ => LLe.of_eq rfl, hn, hk⟩

end Go.Proofs.Ytdakikgebfphmaa
