/-
  Convex functions: the walks of Restrict, Move, Turn, and of the law's comparison.
-/
import Derived.Test.YtkkkldhilofgmaaMovP
namespace Go.Proofs.Ytkkkldhilofgmaa
open Go.RowKit

def sSI : List AV → Sd × AV
  | [.c (.sl 1 n f), .c (.sl 1 m g)] => (.p (is1 n f ∧ is1 m g ∧ n ≤ 9000000 ∧ m = n ∧ ∀ i, i < n → d0 f i = d0 g i), boolV true)
  | _ => (.p False, .top)
def gamXB : Gam := fun f => match f with
  | 19 => some (sCx (fun _ _ n _ _ => n ≤ maxLen) fun lo v n p q => intV (cxE lo v n p q))
  | 23 => some sSI
  | 27 => some (s3 inB)
  | _ => none
theorem gamXB_ok : GOk Try.prog gamXB := fun f g h => by
  unfold gamXB at h
  split at h
  · injection h with h; subst h; exact sCx_ok cxErr
  · injection h with h; subst h
    intro args hs _
    unfold sSI at hs ⊢
    split at hs
    · exact (sameInts _ _ _ _ hs.2.2).le (Le.cons (Le1.sl hs.1) (Le.cons (Le1.sl hs.2.1) Le.nil))
    · exact hs.elim
  · injection h with h; subst h; exact s3_ok in3
  · cases h

theorem sameVals (lo v : Int) (n : Nat) (p q : Nat → Int) (low : Int) (m : Nat) (y : Nat → Int) (h : okCx lo v n p q) (hl : lo = low) (hm : m = cxT n p + 1) (hy : ∀ i, i < m → y i = cW v n p q i) : Fn1 Try.prog 21 [cxV lo v n p q, intV low, .c (.sl 1 m (c1 y))] (boolV true) := by
  refine fn_of_wpx (O := lex) tab_ok gamXB_ok mixed Try.func21 (by kernel_rfl) rfl rfl rfl (by simp [Try.ntmps21]) (by kernel_rfl) ?_
  have h0 := ok_cxE h
  have hn := h.1
  have hSn := h.sS (Nat.le_refl n)
  have hT : cxT n p ≤ 2000000 := by unfold cxT; omega
  conv => whnf
  repeat' (first
    | (refine NilG.mk fun bn hbn hbx => ?_; conv => whnf)
    | (refine Both.mk ?_ ?_ <;> conv => whnf)
    | exact trivial
    | (refine Br.mk (fun hb => ?_) (fun hb => ?_) <;> (first | (exfalso; revert hb; decide) | ((try simp only [BL] at hb) <;> (try simp only [DL] at hb) <;> conv => whnf)))
    | (refine And.intro ?_ ?_; (focus (first | exact id | exact rfl | exact trivial | (intro hg; first | exact hg | exact rfl | (simp; done) | (simp at hg ⊢; assumption)) | omega | decide | exact is2_c _ _ _ | exact is1_c _ _ | exact isS_c _ _ | exact isB_c _ _ | exact Nat.le_refl _ | assumption | exact mulLe (by decide) (by omega) | exact mulLe2 (by decide) (by omega) (by omega) | (intros; simp only [BL] at *; omega) | (intros; (try simp only [BL] at *); (try simp only [DL] at *); omega) | (intros; simp only [BL] at *; rw [wr_id (by omega) (by omega)]; omega) | (intro h1 h2; exact Bool.and_eq_true_iff.2 ⟨h1, h2⟩) | exact ⟨is2_c _ _ _, show n ≤ maxLen by unfold maxLen; omega⟩ | (intros; simp_all; done))); conv => whnf)
    | (refine Or.inr (And.intro rfl ?_); first | (refine congrArg intV ?_) | (refine congrArg boolV ?_) | (refine tupII ?_ ?_) | (refine tupIII ?_ ?_ ?_) | (refine tupU ?_ ?_ ?_ ?_ ?_) | exact rfl))
  refine And.intro (fun _ => ?_) (fun hg => ?_)
  · conv => whnf
    refine CallG.mk (Fn.mono (cxValues lo v n p q h) ?_)
    rintro obs r ⟨rfl, rfl⟩
    conv => whnf
    repeat' (first
      | (refine NilG.mk fun bn hbn hbx => ?_; conv => whnf)
      | (refine Both.mk ?_ ?_ <;> conv => whnf)
      | exact trivial
      | (refine Br.mk (fun hb => ?_) (fun hb => ?_) <;> (first | (exfalso; revert hb; decide) | ((try simp only [BL] at hb) <;> (try simp only [DL] at hb) <;> conv => whnf)))
      | (refine And.intro ?_ ?_; (focus (first | exact id | exact rfl | exact trivial | (intro hg; first | exact hg | exact rfl | (simp; done) | (simp at hg ⊢; assumption)) | omega | decide | exact is2_c _ _ _ | exact is1_c _ _ | exact isS_c _ _ | exact isB_c _ _ | exact Nat.le_refl _ | assumption | exact mulLe (by decide) (by omega) | exact mulLe2 (by decide) (by omega) (by omega) | (intros; simp only [BL] at *; omega) | (intros; (try simp only [BL] at *); (try simp only [DL] at *); omega) | (intros; simp only [BL] at *; rw [wr_id (by omega) (by omega)]; omega) | (intro h1 h2; exact Bool.and_eq_true_iff.2 ⟨h1, h2⟩) | first | exact fun _ => ⟨is1_c _ _, is1_c _ _, by omega, hm, fun i hi => (hy i (by omega)).symm⟩ | (intros; simp_all; done))); conv => whnf)
      | (refine Or.inr (And.intro rfl ?_); first | (refine congrArg intV ?_) | (refine congrArg boolV ?_) | (refine tupII ?_ ?_) | (refine tupIII ?_ ?_ ?_) | (refine tupU ?_ ?_ ?_ ?_ ?_) | exact rfl))
    show (cxE lo v n p q == 0 && lo == low && true) = true
    rw [h0, hl]
    simp
  · exfalso
    have hg' : (cxE lo v n p q == 0 && lo == low) = false := hg
    rw [h0, hl] at hg'
    simp at hg'

def moveE (lo v : Int) (n : Nat) (p q : Nat → Int) (x y : Int) : Int := if cxE lo v n p q ≠ 0 then cxE lo v n p q else if outM x 2000000 = true ∨ outM y 1000000000000000 = true then 4 else if cxE (lo + x) (v + y) n p q ≠ 0 then 2 else 0
def moveK (lo v : Int) (n : Nat) (p q : Nat → Int) (x y : Int) (obs : List OB) (r : AV) : Prop :=
  obs = [] ∧ ((moveE lo v n p q x y ≠ 0 ∧ r = .tup [nulV, intV (moveE lo v n p q x y)]) ∨ (moveE lo v n p q x y = 0 ∧ r = .tup [cxV (lo + x) (v + y) n p q, intV 0]))
def gamXC : Gam := fun f => match f with
  | 101 => some (sCx (fun _ _ n _ _ => n ≤ maxLen) fun lo v n p q => intV (cxE lo v n p q))
  | 68 => some (sCxi (fun lo v n p q x => okCx lo v n p q ∧ lo ≤ x ∧ x ≤ lo + S p n) fun lo v n p q x => intV (v + S (ct p q (x - lo)) n))
  | 65 => some (sCx okCx fun lo _ n p _ => intV (lo + S p n))
  | 120 => some (s2i (fun _ m => 0 ≤ m ∧ m ≤ 1000000000000000000) outM)
  | _ => none
theorem gamXC_ok : GOk Try.prog gamXC := fun f g h => by
  unfold gamXC at h
  split at h
  · injection h with h; subst h; exact sCx_ok cxCheck
  · injection h with h; subst h; exact sCxi_ok cxat
  · injection h with h; subst h; exact sCx_ok cxhigh
  · injection h with h; subst h; exact s2i_ok cxout
  · cases h
def turnK (lo v : Int) (n : Nat) (p q : Nat → Int) (obs : List OB) (r : AV) : Prop :=
  obs = [] ∧ ((cxE lo v n p q ≠ 0 ∧ r = .tup [nulV, intV (cxE lo v n p q)]) ∨ (cxE lo v n p q = 0 ∧ r = .tup [cxV (-(lo + S p n)) (cW v n p q (S p n).toNat) n (rvP n p) (rvQ n q), intV 0]))
def ordT9 : Ord := fun id => none
/-- the ends of the part -/
def rsL (lo low : Int) : Int := max lo low
def rsE (lo : Int) (n : Nat) (p : Nat → Int) (e : Int) : Int := min (lo + S p n) e
def resK (lo v : Int) (n : Nat) (p q : Nat → Int) (low e : Int) (obs : List OB) (r : AV) : Prop :=
  obs = [] ∧ ((cxE lo v n p q ≠ 0 ∧ r = .tup [nulV, intV (cxE lo v n p q)]) ∨ (cxE lo v n p q = 0 ∧ rsL lo low > rsE lo n p e ∧ r = .tup [nulV, intV 8]) ∨
    (cxE lo v n p q = 0 ∧ rsL lo low ≤ rsE lo n p e ∧ ∃ L E : Nat, (L : Int) = rsL lo low - lo ∧ (E : Int) = rsE lo n p e - lo ∧ r = .tup [cxV (lo + L) (cW v n p q L) (cn p L E n) (fun j => ln p L E (cA p L E n + j)) (fun j => q (cA p L E n + j)), intV 0]))
theorem cxRestrict (lo v : Int) (n : Nat) (p q : Nat → Int) (low e : Int) (hn : n ≤ maxLen) : Fn Try.prog 74 [cxV lo v n p q, intV low, intV e] (resK lo v n p q low e) := by
  refine fn_of_wpx (O := lex) tab_ok gamXC_ok mixed Try.func74 (by kernel_rfl) rfl rfl rfl (by simp [Try.ntmps74]) (by kernel_rfl) ?_
  have hn' : n ≤ 9223372036854775807 := hn
  conv => whnf
  repeat' (first
    | (refine NilG.mk fun bn hbn hbx => ?_; conv => whnf)
    | (refine Both.mk ?_ ?_ <;> conv => whnf)
    | exact trivial
    | (refine Br.mk (fun hb => ?_) (fun hb => ?_) <;> (first | (exfalso; revert hb; decide) | ((try simp only [BL] at hb) <;> (try simp only [DL] at hb) <;> conv => whnf)))
    | (refine And.intro ?_ ?_; (focus (first | exact id | exact rfl | exact trivial | (intro hg; first | exact hg | exact rfl | (simp; done) | (simp at hg ⊢; assumption)) | omega | decide | exact is2_c _ _ _ | exact is1_c _ _ | exact isS_c _ _ | exact isB_c _ _ | exact Nat.le_refl _ | assumption | exact mulLe (by decide) (by omega) | exact mulLe2 (by decide) (by omega) (by omega) | (intros; simp only [BL] at *; omega) | (intros; (try simp only [BL] at *); (try simp only [DL] at *); omega) | (intros; simp only [BL] at *; rw [wr_id (by omega) (by omega)]; omega) | (intro h1 h2; exact Bool.and_eq_true_iff.2 ⟨h1, h2⟩) | first | exact ⟨is2_c _ _ _, hn⟩ | exact ⟨is2_c _ _ _, cxE_zero hb⟩ | (intros; simp_all; done))); conv => whnf)
    | (refine Or.inr (And.intro rfl ?_); first | (refine congrArg intV ?_) | (refine congrArg boolV ?_) | (refine tupII ?_ ?_) | (refine tupIII ?_ ?_ ?_) | (refine tupU ?_ ?_ ?_ ?_ ?_) | exact rfl))
  · have h0 : ¬ cxE lo v n p q = 0 := hb
    exact .inr ⟨rfl, .inl ⟨h0, rfl⟩⟩
  · rename_i h1
    have h0 : cxE lo v n p q = 0 := h1
    exact .inr ⟨rfl, .inr (.inl ⟨h0, hb, rfl⟩)⟩
  rename_i h1
  have h0 : cxE lo v n p q = 0 := h1
  have h := cxE_zero h0
  have hn64 := h.1
  have hl := h.2
  have hSn := h.sS (Nat.le_refl n)
  have hle : rsL lo low ≤ rsE lo n p e := by unfold rsL rsE; omega
  obtain ⟨L, hL⟩ : ∃ L : Nat, max lo low = lo + (L : Int) := ⟨(max lo low - lo).toNat, by omega⟩
  obtain ⟨E, hE⟩ : ∃ E : Nat, min (lo + S p n) e = lo + (E : Int) := ⟨(min (lo + S p n) e - lo).toNat, by omega⟩
  have hLE : L ≤ E := by omega
  have hET : (E : Int) ≤ S p n := by omega
  have hok := cut_ok h hLE hET
  refine And.intro ⟨is2_c _ _ _, h, show lo ≤ max lo low by omega, show max lo low ≤ lo + S p n by omega⟩ ?_
  rw [hL]
  rw [show min (lo + S (d0 (c2 p q)) n) e = lo + (E : Int) from hE]
  conv => whnf
  repeat' (first
    | (refine NilG.mk fun bn hbn hbx => ?_; conv => whnf)
    | (refine Both.mk ?_ ?_ <;> conv => whnf)
    | exact trivial
    | (refine Br.mk (fun hb => ?_) (fun hb => ?_) <;> (first | (exfalso; revert hb; decide) | ((try simp only [BL] at hb) <;> (try simp only [DL] at hb) <;> conv => whnf)))
    | (refine And.intro ?_ ?_; (focus (first | exact id | exact rfl | exact trivial | (intro hg; first | exact hg | exact rfl | (simp; done) | (simp at hg ⊢; assumption)) | omega | decide | exact is2_c _ _ _ | exact is1_c _ _ | exact isS_c _ _ | exact isB_c _ _ | exact Nat.le_refl _ | assumption | exact mulLe (by decide) (by omega) | exact mulLe2 (by decide) (by omega) (by omega) | (intros; simp only [BL] at *; omega) | (intros; (try simp only [BL] at *); (try simp only [DL] at *); omega) | (intros; simp only [BL] at *; rw [wr_id (by omega) (by omega)]; omega) | (intro h1 h2; exact Bool.and_eq_true_iff.2 ⟨h1, h2⟩) | (intros; simp_all; done))); conv => whnf)
    | (refine Or.inr (And.intro rfl ?_); first | (refine congrArg intV ?_) | (refine congrArg boolV ?_) | (refine tupII ?_ ?_) | (refine tupIII ?_ ?_ ?_) | (refine tupU ?_ ?_ ?_ ?_ ?_) | exact rfl))
  refine CallG.mk (Fn.mono (cxcut lo v n p q (lo + L) (lo + E) h (by omega) (by omega) (by omega)) ?_)
  rintro obs r ⟨rfl, rfl⟩
  rw [show lo + (L : Int) - lo = L by omega, show lo + (E : Int) - lo = E by omega]
  conv => whnf
  repeat' (first
    | (refine NilG.mk fun bn hbn hbx => ?_; conv => whnf)
    | (refine Both.mk ?_ ?_ <;> conv => whnf)
    | exact trivial
    | (refine Br.mk (fun hb => ?_) (fun hb => ?_) <;> (first | (exfalso; revert hb; decide) | ((try simp only [BL] at hb) <;> (try simp only [DL] at hb) <;> conv => whnf)))
    | (refine And.intro ?_ ?_; (focus (first | exact id | exact rfl | exact trivial | (intro hg; first | exact hg | exact rfl | (simp; done) | (simp at hg ⊢; assumption)) | omega | decide | exact is2_c _ _ _ | exact is1_c _ _ | exact isS_c _ _ | exact isB_c _ _ | exact Nat.le_refl _ | assumption | exact mulLe (by decide) (by omega) | exact mulLe2 (by decide) (by omega) (by omega) | (intros; simp only [BL] at *; omega) | (intros; (try simp only [BL] at *); (try simp only [DL] at *); omega) | (intros; simp only [BL] at *; rw [wr_id (by omega) (by omega)]; omega) | (intro h1 h2; exact Bool.and_eq_true_iff.2 ⟨h1, h2⟩) | (intros; simp_all; done))); conv => whnf)
    | (refine Or.inr (And.intro rfl ?_); first | (refine congrArg intV ?_) | (refine congrArg boolV ?_) | (refine tupII ?_ ?_) | (refine tupIII ?_ ?_ ?_) | (refine tupU ?_ ?_ ?_ ?_ ?_) | exact rfl))
  refine CallG.mk (Fn.mono (cxmade (lo + L) (cW v n p q L) (cn p L E n) _ _ hok.1 hok.2.2.2.2.2.2.1) ?_)
  rintro obs r ⟨rfl, ⟨h4, rfl⟩ | ⟨h4, rfl⟩⟩
  · conv => whnf
    repeat' (first
      | (refine NilG.mk fun bn hbn hbx => ?_; conv => whnf)
      | (refine Both.mk ?_ ?_ <;> conv => whnf)
      | exact trivial
      | (refine Br.mk (fun hb => ?_) (fun hb => ?_) <;> (first | (exfalso; revert hb; decide) | ((try simp only [BL] at hb) <;> (try simp only [DL] at hb) <;> conv => whnf)))
      | (refine And.intro ?_ ?_; (focus (first | exact id | exact rfl | exact trivial | (intro hg; first | exact hg | exact rfl | (simp; done) | (simp at hg ⊢; assumption)) | omega | decide | exact is2_c _ _ _ | exact is1_c _ _ | exact isS_c _ _ | exact isB_c _ _ | exact Nat.le_refl _ | assumption | exact mulLe (by decide) (by omega) | exact mulLe2 (by decide) (by omega) (by omega) | (intros; simp only [BL] at *; omega) | (intros; (try simp only [BL] at *); (try simp only [DL] at *); omega) | (intros; simp only [BL] at *; rw [wr_id (by omega) (by omega)]; omega) | (intro h1 h2; exact Bool.and_eq_true_iff.2 ⟨h1, h2⟩) | (intros; simp_all; done))); conv => whnf)
      | (refine Or.inr (And.intro rfl ?_); first | (refine congrArg intV ?_) | (refine congrArg boolV ?_) | (refine tupII ?_ ?_) | (refine tupIII ?_ ?_ ?_) | (refine tupU ?_ ?_ ?_ ?_ ?_) | exact rfl))
    exact .inr ⟨rfl, .inr (.inr ⟨h0, hle, L, E, by unfold rsL; omega, by unfold rsE; omega, rfl⟩)⟩
  · exact absurd (ok_cxE hok) h4
end Go.Proofs.Ytkkkldhilofgmaa
