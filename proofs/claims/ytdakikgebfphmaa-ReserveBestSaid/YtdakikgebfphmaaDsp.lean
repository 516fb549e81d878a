/-
  The package dispatch: Cost.
-/
import Derived.Test.YtdakikgebfphmaaOffLs
namespace Go.Proofs.Ytdakikgebfphmaa
open Go.RowKit

theorem offsE_zero {n : Nat} {s : Nat → ByteArray} {m : Nat → Nat} {p q : Nat → Nat → Int} (h : offsE n s m p q = 0) : n ≤ 10 ∧ ∀ k, k < n → offE (s k) (m k) (p k) (q k) = 0 ∧ okOff (m k) (p k) (q k) ∧ S (p k) (m k) ≤ 100000 ∧ 0 ≤ S (p k) (m k) := by
  unfold offsE at h
  split at h
  · cases h
  · refine ⟨by omega, fun k hk => ?_⟩
    have h1 := fst_zero h k hk
    unfold lsE at h1
    split at h1
    · rename_i hn; exact absurd h1 hn
    · rename_i hn
      have hz : offE (s k) (m k) (p k) (q k) = 0 := by simpa using hn
      have ho := (offE_zero hz).2
      have := ho.S0 (Nat.le_refl _)
      exact ⟨hz, ho, by omega, by omega⟩

/-- the error of power k; of a list of powers -/
def pwE (m : Nat → Nat) (p : Nat → Nat → Int) (x : Nat → Int) (k : Nat) : Int := if x k < 0 ∨ S (p k) (m k) < x k then 4 else 0
def dxE (n nx : Nat) (s : Nat → ByteArray) (m : Nat → Nat) (p q : Nat → Nat → Int) (x : Nat → Int) : Int := if offsE n s m p q ≠ 0 then offsE n s m p q else if nx ≠ n then 3 else fst (pwE m p x) n
/-- what offer k costs -/
def cK (m : Nat → Nat) (p q : Nat → Nat → Int) (x : Nat → Int) (k : Nat) : Int := S (ct (p k) (q k) (x k)) (m k)
theorem pwE_off {s : Nat → ByteArray} {m : Nat → Nat} {p q : Nat → Nat → Int} {x : Nat → Int} {k : Nat} (h : offE (s k) (m k) (p k) (q k) = 0) : offXE (s k) (m k) (p k) (q k) (x k) = pwE m p x k := by
  unfold offXE pwE
  rw [if_neg (fun hh => hh h)]
theorem pwE_zero {m : Nat → Nat} {p : Nat → Nat → Int} {x : Nat → Int} {k : Nat} (h : pwE m p x k = 0) : 0 ≤ x k ∧ x k ≤ S (p k) (m k) := by
  unfold pwE at h
  split at h
  · cases h
  · omega

abbrev xOff (s : ByteArray) (n : Nat) (p q : Nat → Int) (x : Int) : AV := .tup [intV (if offXE s n p q x = 0 then S (ct p q x) n else 0), intV (offXE s n p q x)]
def gamD1 : Gam := fun f => match f with
  | 73 => some (sOl fun n s m p q => intV (offsE n s m p q))
  | 74 => some (sOi (fun s n _ _ _ => s.size ≤ maxLen ∧ n ≤ maxLen) xOff)
  | _ => none
theorem gamD1_ok : GOk Try.prog gamD1 := fun f g h => by
  unfold gamD1 at h
  split at h
  · injection h with h; subst h; exact sOl_ok fun s m p q n h1 h2 => checkAll s m p q n h1 h2
  · injection h with h; subst h; exact sOi_ok fun s n p q x hp => offCost s n p q x hp.1 hp.2
  · cases h

abbrev dcV (n nx : Nat) (s : Nat → ByteArray) (m : Nat → Nat) (p q : Nat → Nat → Int) (x : Nat → Int) : AV :=
  .tup [intV (if dxE n nx s m p q x = 0 then S (cK m p q x) n else 0), intV (if dxE n nx s m p q x = 0 then S x n else 0), intV (dxE n nx s m p q x)]
theorem dsum {n i : Nat} {s : Nat → ByteArray} {m : Nat → Nat} {p q : Nat → Nat → Int} {x : Nat → Int} (h0 : offsE n s m p q = 0) (hi : i ≤ n) (he : fst (pwE m p x) i = 0) : 0 ≤ S x i ∧ S x i ≤ 1000000 ∧ -12000000000000 ≤ S (cK m p q x) i ∧ S (cK m p q x) i ≤ 12000000000000 := by
  obtain ⟨hn, hall⟩ := offsE_zero h0
  have h1 := S_le (p := x) (a := 0) (b := 100000) (k := i) fun j hj => by have := pwE_zero (fst_zero he j hj); have := hall j (by omega); omega
  have h2 := S_le (p := cK m p q x) (a := -1200000000000) (b := 1200000000000) (k := i) fun j hj => C_le (hall j (by omega)).2.1 (x j) (Nat.le_refl _)
  omega

theorem dspCost (s : Nat → ByteArray) (m : Nat → Nat) (p q : Nat → Nat → Int) (n nx : Nat) (x : Nat → Int) (hn : n ≤ maxLen) (hk : ∀ k, k < n → (s k).size ≤ maxLen ∧ m k ≤ maxLen) (hnx : nx ≤ maxLen) :
    Fn1 Try.prog 23 [.c (.sl 2 n (cO s m p q)), .c (.sl 1 nx (c1 x))] (dcV n nx s m p q x) := by
  refine fn_of_wpx (O := lex) tab_ok gamD1_ok mixed Try.func23 (by kernel_rfl) rfl rfl rfl (by simp [Try.ntmps23]) (by kernel_rfl) ?_
  have hn' : n ≤ 9223372036854775807 := hn
  have hnx' : nx ≤ 9223372036854775807 := hnx
  conv => whnf
  repeat' (first
    | (refine NilG.mk fun bn hbn => ?_; conv => whnf)
    | (refine Both.mk ?_ ?_ <;> conv => whnf)
    | exact trivial
    | (refine Br.mk (fun hb => ?_) (fun hb => ?_) <;> (first | (exfalso; revert hb; decide) | ((try simp only [BL] at hb) <;> (try simp only [DL] at hb) <;> conv => whnf)))
    | (refine And.intro ?_ ?_; (focus (first | exact id | exact rfl | exact trivial | (intro hg; first | exact hg | exact rfl | (simp; done) | (simp at hg ⊢; assumption)) | omega | decide | exact is2_c _ _ _ | exact is1_c _ _ | exact isS_c _ _ | exact isB_c _ _ | exact Nat.le_refl _ | assumption | exact mulLe (by decide) (by omega) | exact mulLe2 (by decide) (by omega) (by omega) | (intros; simp only [BL] at *; omega) | (intros; (try simp only [BL] at *); (try simp only [DL] at *); omega) | (intros; simp only [BL] at *; rw [wr_id (by omega) (by omega)]; omega) | (intro h1 h2; exact Bool.and_eq_true_iff.2 ⟨h1, h2⟩) | exact isO_c hn hk | (intros; simp_all; done))); conv => whnf)
    | (refine Or.inr (And.intro rfl ?_); first | (refine congrArg intV ?_) | (refine congrArg boolV ?_) | (refine tupII ?_ ?_) | (refine tupIII ?_ ?_ ?_) | (refine tupU ?_ ?_ ?_ ?_ ?_) | exact rfl))
  iterate 3
    · have h0 : ¬ offsE n s m p q = 0 := hb
      have hE : dxE n nx s m p q x = offsE n s m p q := if_pos h0
      first
      | (rw [hE, if_neg h0]; done)
      | exact hE.symm
  iterate 3
    · rename_i h1
      have h0 : offsE n s m p q = 0 := h1
      have hE : dxE n nx s m p q x = 3 := by unfold dxE; rw [if_neg (fun h => h h0), if_pos (by omega)]
      first
      | (rw [hE]; rfl)
      | exact hE.symm
  rename_i h1
  have h0 : offsE n s m p q = 0 := h1
  obtain ⟨hn10, hall⟩ := offsE_zero h0
  obtain rfl : nx = n := by omega
  have hE : dxE nx nx s m p q x = fst (pwE m p x) nx := by unfold dxE; rw [if_neg (fun h => h h0), if_neg (fun h => h rfl)]
  clear hb h1
  refine sem_loop tab_ok gamD1_ok mixed (by kernel_rfl) (O := lex) (fun i : Nat => ⟨[(26, intV i), (25, intV nx), (24, .c (.sl 2 nx (cO s m p q))), (1, .c (.sl 1 nx (c1 x))), (8, intV (S (cK m p q x) i)), (9, intV (S x i))], []⟩) (fun i => i ≤ nx ∧ fst (pwE m p x) i = 0) (fun i => nx - i) ⟨0, [], ⟨Nat.zero_le _, rfl⟩, ?_⟩ fun i hi => ?_
  · refine Sub.of ?_ ?_ ?_
    repeat' (first | (refine And.intro ?_ ?_) | exact trivial | exact fun _ _ _ => hsc _ _ | (exact congrArg intV (by first | with_reducible rfl | with_reducible assumption)) | exact (rfl : AV.idsLt _ _ = true) | exact (rfl : _ = AV.ren _ (.own _)) | exact (rfl : _ = AV.ren _ (.fn _ _)) | exact (rfl : _ = AV.ren _ (.gh _)) | (exact congrArg intV (by assumption)) | (refine congrArg intV ((wr_id (by omega) (by omega)).trans (by omega))) | exact rfl | (simp only [Int.toNat_natCast, Int.toNat_zero, Nat.sub_zero, Nat.zero_add]; first | exact rfl | done) | exact all0 | exact fun h => Bool.noConfusion h | exact fun _ _ _ _ => rfl | omega)
  have hs := dsum h0 hi.1 hi.2
  have hx : i < nx → offXE (s i) (m i) (p i) (q i) (x i) = pwE m p x i := fun hlt => pwE_off (hall i hlt).1
  conv => whnf
  repeat' (first
    | (refine NilG.mk fun bn hbn => ?_; conv => whnf)
    | (refine Both.mk ?_ ?_ <;> conv => whnf)
    | exact trivial
    | (refine Br.mk (fun hb => ?_) (fun hb => ?_) <;> (first | (exfalso; revert hb; decide) | ((try simp only [BL] at hb) <;> (try simp only [DL] at hb) <;> conv => whnf)))
    | (refine And.intro ?_ ?_; (focus (first | exact id | exact rfl | exact trivial | (intro hg; first | exact hg | exact rfl | (simp; done) | (simp at hg ⊢; assumption)) | omega | decide | exact is2_c _ _ _ | exact is1_c _ _ | exact isS_c _ _ | exact isB_c _ _ | exact Nat.le_refl _ | assumption | exact mulLe (by decide) (by omega) | exact mulLe2 (by decide) (by omega) (by omega) | (intros; simp only [BL] at *; omega) | (intros; (try simp only [BL] at *); (try simp only [DL] at *); omega) | (intros; simp only [BL] at *; rw [wr_id (by omega) (by omega)]; omega) | (intro h1 h2; exact Bool.and_eq_true_iff.2 ⟨h1, h2⟩) | exact ⟨is2_c _ _ _, (hk i (by omega)).1, (hk i (by omega)).2⟩ | (intros; simp_all; done))); conv => whnf)
    | (refine Or.inr (And.intro rfl ?_); first | (refine congrArg intV ?_) | (refine congrArg boolV ?_) | (refine tupII ?_ ?_) | (refine tupIII ?_ ?_ ?_) | (refine tupU ?_ ?_ ?_ ?_ ?_) | exact rfl))
  iterate 3
    · have h1 : pwE m p x i ≠ 0 := by rw [← hx (by omega)]; exact hb
      have hE' : dxE nx nx s m p q x = pwE m p x i := by rw [hE, fst_at hi.2 h1 (by omega)]
      first
      | (rw [hE', if_neg h1]; done)
      | exact (hx (by omega)).trans hE'.symm
  · have h1 : pwE m p x i = 0 := by rw [← hx (by omega)]; exact hb
    have hs' := dsum h0 (i := i + 1) (by omega) (fst_next hi.2 h1)
    have e1 : IntKind.i64.wrap (S (cK m p q x) i + (if offXE (s i) (m i) (p i) (q i) (x i) = 0 then S (ct (p i) (q i) (x i)) (m i) else 0)) = S (cK m p q x) (i + 1) := by
      have hc : S (cK m p q x) (i + 1) = S (cK m p q x) i + S (ct (p i) (q i) (x i)) (m i) := rfl
      rw [if_pos hb, ← hc]
      exact wr_id (by omega) (by omega)
    have e2 : IntKind.i64.wrap (S x i + x i) = S x (i + 1) := wr_id (by simp only [S] at hs'; omega) (by simp only [S] at hs'; omega)
    refine ⟨i + 1, [], ⟨by omega, fst_next hi.2 h1⟩, by omega, ?_⟩
    refine Sub.of ?_ ?_ ?_
    repeat' (first | (refine And.intro ?_ ?_) | exact trivial | exact fun _ _ _ => hsc _ _ | (exact congrArg intV (by first | with_reducible rfl | with_reducible assumption)) | exact (rfl : AV.idsLt _ _ = true) | exact (rfl : _ = AV.ren _ (.own _)) | exact (rfl : _ = AV.ren _ (.fn _ _)) | exact (rfl : _ = AV.ren _ (.gh _)) | (exact congrArg intV (by assumption)) | (refine congrArg intV ((wr_id (by omega) (by omega)).trans (by omega))) | exact rfl | (simp only [Int.toNat_natCast, Int.toNat_zero, Nat.sub_zero, Nat.zero_add]; first | exact rfl | done) | exact all0 | exact fun h => Bool.noConfusion h | exact fun _ _ _ _ => rfl | omega)
  iterate 3
    · obtain rfl : i = nx := by omega
      have hE' : dxE i i s m p q x = 0 := hE.trans hi.2
      first
      | exact (if_pos hE').symm
      | exact hE'.symm
end Go.Proofs.Ytdakikgebfphmaa
