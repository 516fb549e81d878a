/-
  Ledger texts: decimal numerals.
-/
import Derived.Test.YtjfnhehjhicnoaaDoorLtI
import Derived.Test.YtjfnhehjhicnoaaDoorPur
import Derived.Test.YtjfnhehjhicnoaaDoorNmB
import Derived.Test.YtjfnhehjhicnoaaDoorName
namespace Go.Proofs.YtjfnhehjhicnoaaDoor
open Go.RowKit

def decB (u : Nat) : ByteArray := ⟨(Lib.decDigits u).toArray⟩
theorem decB_lt {u : Nat} (h : u < 10) : decB u = ⟨#[UInt8.ofNat (48 + u)]⟩ := by
  unfold decB
  rw [Lib.decDigits, dif_pos h]
theorem decB_ge {u : Nat} (h : ¬ u < 10) : decB (u / 10) ++ decB (u % 10) = decB u := by
  apply ByteArray.ext
  rw [ByteArray.data_append]
  show (Lib.decDigits (u / 10)).toArray ++ (Lib.decDigits (u % 10)).toArray = (Lib.decDigits u).toArray
  rw [Lib.decDigits.eq_def u, dif_neg h, Lib.decDigits.eq_def (u % 10), dif_pos (Nat.mod_lt _ (by decide))]
  simp
theorem decB_size {u : Nat} : ∀ {k : Nat}, u < 10 ^ (k + 1) → (decB u).size ≤ k + 1 := by
  intro k
  induction k generalizing u with
  | zero =>
    intro h
    rw [decB_lt (by simpa using h)]
    exact Nat.le_refl _
  | succ k ih =>
    intro h
    by_cases h10 : u < 10
    · rw [decB_lt h10]
      show 1 ≤ k + 1 + 1
      omega
    · have h1 := ih (u := u / 10) (by
        rw [Nat.pow_succ] at h
        exact Nat.div_lt_of_lt_mul (by rw [Nat.mul_comm]; exact h))
      rw [← decB_ge h10, ByteArray.size_append, decB_lt (Nat.mod_lt _ (by decide))]
      show _ + 1 ≤ k + 1 + 1
      omega
theorem decB_20 {u : Nat} (h : u ≤ 9223372036854775807) : (decB u).size ≤ 19 := decB_size (k := 18) (by omega)
theorem itoB_dec (u : Nat) : itoB (u : Int) = decB u := by
  unfold itoB decB Lib.itoa
  rw [if_neg (by omega)]
  rfl
theorem dig10 : ∀ u, u < 10 → (⟨#[48, 49, 50, 51, 52, 53, 54, 55, 56, 57]⟩ : ByteArray).extract u (u + 1) = ⟨#[UInt8.ofNat (48 + u)]⟩ := by decide
theorem ltDecS (u : Nat) (hu : u ≤ 9223372036854775807) (ih : ∀ v, v < u → Fn1 Tryd.prog 34 [intV (v : Int)] (strV (decB v))) : Fn1 Tryd.prog 34 [intV (u : Int)] (strV (decB u)) := by
  refine fn_of_wpx (O := lex) tab_ok (Γ := fun _ => none) (fun _ _ h => by cases h) mixed Tryd.func34 (by kernel_rfl) rfl rfl rfl (by simp [Tryd.ntmps34]) (by kernel_rfl) ?_
  have e1 : IntKind.i64.wrap ((u : Int).tdiv 10) = ((u / 10 : Nat) : Int) := by
    rw [Int.tdiv_eq_ediv_of_nonneg (by omega)]
    exact (wr_id (by omega) (by omega)).trans (by omega)
  have e2 : (u : Int).tmod 10 = ((u % 10 : Nat) : Int) := by
    rw [Int.tmod_eq_emod_of_nonneg (by omega)]
    omega
  have e3 : u < 10 → IntKind.i64.wrap ((u : Int) + 1) = ((u + 1 : Nat) : Int) := fun h => (wr_id (by omega) (by omega)).trans (by omega)
  conv => whnf
  repeat' (first
    | (refine NilG.mk fun bn hbn hbx => ?_; conv => whnf)
    | (refine Both.mk ?_ ?_ <;> conv => whnf)
    | ((first | (refine MkG.box 1 rfl rfl rfl (by decide) ?_) | (refine MkG.box 2 rfl rfl rfl (by decide) ?_) | (refine MkG.box 3 rfl rfl rfl (by decide) ?_) | (refine MkG.row ?_)); conv => whnf)
    | (refine LitG.row ?_; conv => whnf)
    | exact trivial
    | (refine Br.mk (fun hb => ?_) (fun hb => ?_) <;> (first | (exfalso; revert hb; decide) | ((try simp only [BL] at hb) <;> (try simp only [DL] at hb) <;> (first | (exfalso; omega) | (conv => whnf)))))
    | (refine And.intro ?_ ?_; (focus (first | exact id | exact rfl | exact trivial | (intro hg; first | exact hg | exact rfl | (simp; done) | (simp at hg ⊢; assumption)) | omega | decide | exact is2_c _ _ _ | exact is1_c _ _ | exact isS_c _ _ | exact isB_c _ _ | exact Nat.le_refl _ | assumption | exact mulLe (by decide) (by omega) | exact mulLe2 (by decide) (by omega) (by omega) | (intros; simp only [BL] at *; omega) | (intros; (try simp only [BL] at *); (try simp only [DL] at *); omega) | (intros; simp only [BL] at *; rw [wr_id (by omega) (by omega)]; omega) | (intro h1 h2; exact Bool.and_eq_true_iff.2 ⟨h1, h2⟩) | first | exact ⟨by omega, by rw [e3 (by omega)]; omega, by rw [e3 (by omega)]; show u + 1 ≤ 10; omega⟩ | (intros; simp_all; done))); conv => whnf)
    | (refine Or.inr (And.intro rfl ?_); first | (refine congrArg intV ?_) | (refine congrArg boolV ?_) | (refine tupII ?_ ?_) | (refine tupIII ?_ ?_ ?_) | (refine tupU ?_ ?_ ?_ ?_ ?_) | exact rfl))
  · rw [e1]
    refine CallG.mk (Fn.mono (ih (u / 10) (by omega)) ?_)
    rintro obs r ⟨rfl, rfl⟩
    conv => whnf
    repeat' (first
      | (refine NilG.mk fun bn hbn hbx => ?_; conv => whnf)
      | (refine Both.mk ?_ ?_ <;> conv => whnf)
      | ((first | (refine MkG.box 1 rfl rfl rfl (by decide) ?_) | (refine MkG.box 2 rfl rfl rfl (by decide) ?_) | (refine MkG.box 3 rfl rfl rfl (by decide) ?_) | (refine MkG.row ?_)); conv => whnf)
      | (refine LitG.row ?_; conv => whnf)
      | exact trivial
      | (refine Br.mk (fun hb => ?_) (fun hb => ?_) <;> (first | (exfalso; revert hb; decide) | ((try simp only [BL] at hb) <;> (try simp only [DL] at hb) <;> (first | (exfalso; omega) | (conv => whnf)))))
      | (refine And.intro ?_ ?_; (focus (first | exact id | exact rfl | exact trivial | (intro hg; first | exact hg | exact rfl | (simp; done) | (simp at hg ⊢; assumption)) | omega | decide | exact is2_c _ _ _ | exact is1_c _ _ | exact isS_c _ _ | exact isB_c _ _ | exact Nat.le_refl _ | assumption | exact mulLe (by decide) (by omega) | exact mulLe2 (by decide) (by omega) (by omega) | (intros; simp only [BL] at *; omega) | (intros; (try simp only [BL] at *); (try simp only [DL] at *); omega) | (intros; simp only [BL] at *; rw [wr_id (by omega) (by omega)]; omega) | (intro h1 h2; exact Bool.and_eq_true_iff.2 ⟨h1, h2⟩) | (intros; simp_all; done))); conv => whnf)
      | (refine Or.inr (And.intro rfl ?_); first | (refine congrArg intV ?_) | (refine congrArg boolV ?_) | (refine tupII ?_ ?_) | (refine tupIII ?_ ?_ ?_) | (refine tupU ?_ ?_ ?_ ?_ ?_) | exact rfl))
    rw [e2]
    refine CallG.mk (Fn.mono (ih (u % 10) (by omega)) ?_)
    rintro obs r ⟨rfl, rfl⟩
    have h1 := decB_20 (u := u / 10) (by omega)
    have h2 := decB_20 (u := u % 10) (by omega)
    conv => whnf
    repeat' (first
      | (refine NilG.mk fun bn hbn hbx => ?_; conv => whnf)
      | (refine Both.mk ?_ ?_ <;> conv => whnf)
      | ((first | (refine MkG.box 1 rfl rfl rfl (by decide) ?_) | (refine MkG.box 2 rfl rfl rfl (by decide) ?_) | (refine MkG.box 3 rfl rfl rfl (by decide) ?_) | (refine MkG.row ?_)); conv => whnf)
      | (refine LitG.row ?_; conv => whnf)
      | exact trivial
      | (refine Br.mk (fun hb => ?_) (fun hb => ?_) <;> (first | (exfalso; revert hb; decide) | ((try simp only [BL] at hb) <;> (try simp only [DL] at hb) <;> (first | (exfalso; omega) | (conv => whnf)))))
      | (refine And.intro ?_ ?_; (focus (first | exact id | exact rfl | exact trivial | (intro hg; first | exact hg | exact rfl | (simp; done) | (simp at hg ⊢; assumption)) | omega | decide | exact is2_c _ _ _ | exact is1_c _ _ | exact isS_c _ _ | exact isB_c _ _ | exact Nat.le_refl _ | assumption | exact mulLe (by decide) (by omega) | exact mulLe2 (by decide) (by omega) (by omega) | (intros; simp only [BL] at *; omega) | (intros; (try simp only [BL] at *); (try simp only [DL] at *); omega) | (intros; simp only [BL] at *; rw [wr_id (by omega) (by omega)]; omega) | (intro h1 h2; exact Bool.and_eq_true_iff.2 ⟨h1, h2⟩) | (show _ ≤ maxLen; unfold maxLen; omega) | (intros; simp_all; done))); conv => whnf)
      | (refine Or.inr (And.intro rfl ?_); first | (refine congrArg intV ?_) | (refine congrArg boolV ?_) | (refine tupII ?_ ?_) | (refine tupIII ?_ ?_ ?_) | (refine tupU ?_ ?_ ?_ ?_ ?_) | exact rfl))
    exact .inr ⟨rfl, congrArg strV (decB_ge (by omega))⟩
  · have hu : u < 10 := by omega
    clear e1 e2 ih
    rw [e3 hu]
    refine And.intro ⟨by omega, by omega, ?_⟩ ?_
    · show ((u + 1 : Nat) : Int) ≤ ((10 : Nat) : Int)
      omega
    conv => whnf
    repeat' (first
      | (refine NilG.mk fun bn hbn hbx => ?_; conv => whnf)
      | (refine Both.mk ?_ ?_ <;> conv => whnf)
      | ((first | (refine MkG.box 1 rfl rfl rfl (by decide) ?_) | (refine MkG.box 2 rfl rfl rfl (by decide) ?_) | (refine MkG.box 3 rfl rfl rfl (by decide) ?_) | (refine MkG.row ?_)); conv => whnf)
      | (refine LitG.row ?_; conv => whnf)
      | exact trivial
      | (refine Br.mk (fun hb => ?_) (fun hb => ?_) <;> (first | (exfalso; revert hb; decide) | ((try simp only [BL] at hb) <;> (try simp only [DL] at hb) <;> (first | (exfalso; omega) | (conv => whnf)))))
      | (refine And.intro ?_ ?_; (focus (first | exact id | exact rfl | exact trivial | (intro hg; first | exact hg | exact rfl | (simp; done) | (simp at hg ⊢; assumption)) | omega | decide | exact is2_c _ _ _ | exact is1_c _ _ | exact isS_c _ _ | exact isB_c _ _ | exact Nat.le_refl _ | assumption | exact mulLe (by decide) (by omega) | exact mulLe2 (by decide) (by omega) (by omega) | (intros; simp only [BL] at *; omega) | (intros; (try simp only [BL] at *); (try simp only [DL] at *); omega) | (intros; simp only [BL] at *; rw [wr_id (by omega) (by omega)]; omega) | (intro h1 h2; exact Bool.and_eq_true_iff.2 ⟨h1, h2⟩) | (intros; simp_all; done))); conv => whnf)
      | (refine Or.inr (And.intro rfl ?_); first | (refine congrArg intV ?_) | (refine congrArg boolV ?_) | (refine tupII ?_ ?_) | (refine tupIII ?_ ?_ ?_) | (refine tupU ?_ ?_ ?_ ?_ ?_) | exact rfl))
    exact .inr ⟨rfl, congrArg strV ((dig10 u hu).trans (decB_lt hu).symm)⟩
theorem ltDec : ∀ (u : Nat), u ≤ 9223372036854775807 → Fn1 Tryd.prog 34 [intV (u : Int)] (strV (decB u)) := by
  intro u
  induction u using Nat.strongRecOn with
  | _ u ih => exact fun hu => ltDecS u hu fun v hv => ih v hv (by omega)
end Go.Proofs.YtjfnhehjhicnoaaDoor
