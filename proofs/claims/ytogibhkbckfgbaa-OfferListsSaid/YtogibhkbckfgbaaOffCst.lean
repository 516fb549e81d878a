/-
  OfferCosts holds: offer's Check, Total, Cost and Marginal return what the reference returns, whatever the input.
-/
import Derived.Test.YtogibhkbckfgbaaOffTwo
namespace Go.Proofs.Ytogibhkbckfgbaa
open Go.RowKit Go.ChangeShapes Go.WideShapes

def gamC : Gam := fun f => match f with
  | 42 => some (sO (fun s n _ _ => s.size ≤ maxLen ∧ n ≤ maxLen) fun s n p q => intV (offE s n p q))
  | 25 => some (sO (fun s n _ _ => s.size ≤ maxLen ∧ n ≤ maxLen) fun s n p q => intV (offE s n p q))
  | 39 => some (sO (fun s n _ _ => s.size ≤ maxLen ∧ n ≤ maxLen) fun s n p q => .tup [intV (if offE s n p q = 0 then S p n else 0), intV (offE s n p q)])
  | 40 => some (sOi (fun s n _ _ _ => s.size ≤ maxLen ∧ n ≤ maxLen) fun s n p q x => .tup [intV (if offXE s n p q x = 0 then S (ct p q x) n else 0), intV (offXE s n p q x)])
  | 41 => some (sOi (fun s n _ _ _ => s.size ≤ maxLen ∧ n ≤ maxLen) fun s n p q x => .tup [intV (if offXE s n p q x = 0 then (if 0 < x then U p q n (x - 1) else -2000000) else 0), intV (if offXE s n p q x = 0 then U p q n x else 0), intV (offXE s n p q x)])
  | 43 => some (sO (fun _ n p q => okOff n p q) fun _ n p _ => intV (S p n))
  | 21 => some (s3 inB)
  | 44 => some (sOi (fun _ n p q _ => okOff n p q) fun _ n p q x => intV (U p q n x))
  | 27 => some (sOi (fun _ n p q x => okOff n p q ∧ 0 ≤ x ∧ x ≤ 2000000) fun _ n p q x => intV (S (ct p q x) n))
  | _ => none
theorem gamC_ok : GOk Try.prog gamC := fun f g h => by
  unfold gamC at h
  split at h
  · injection h with h; subst h; exact sO_ok fun s n p q hp => offCheck s n p q hp.1 hp.2
  · injection h with h; subst h; exact sO_ok fun s n p q hp => offError s n p q hp.1 hp.2
  · injection h with h; subst h; exact sO_ok fun s n p q hp => offTotal s n p q hp.1 hp.2
  · injection h with h; subst h; exact sOi_ok fun s n p q x hp => offCost s n p q x hp.1 hp.2
  · injection h with h; subst h; exact sOi_ok fun s n p q x hp => offMarginal s n p q x hp.1 hp.2
  · injection h with h; subst h; exact sO_ok offAll
  · injection h with h; subst h; exact s3_ok in3
  · injection h with h; subst h; exact sOi_ok offUnit
  · injection h with h; subst h; exact sOi_ok offCost3
  · cases h

theorem costs : Fn1 Try.prog 38 [] (boolV true) := by
  refine fn_of_wpx (O := lex) tab_ok gamC_ok mixed Try.func38 (by kernel_rfl) rfl rfl rfl (by simp [Try.ntmps38]) (by kernel_rfl) ?_
  conv => whnf
  repeat' (first
    | (refine NilG.mk fun bn hbn => ?_; conv => whnf)
    | (refine Br.mk (fun hb => ?_) (fun hb => ?_) <;> (first | (exfalso; revert hb; decide) | ((try simp only [BL] at hb) <;> (try simp only [DL] at hb) <;> conv => whnf)))
    | (refine And.intro ?_ ?_; (focus (first | exact id | exact rfl | exact trivial | (intro hg; first | exact hg | exact rfl | (simp; done) | (simp at hg ⊢; assumption)) | omega | decide | exact is2_c _ _ _ | exact is1_c _ _ | exact isS_c _ _ | exact isB_c _ _ | exact Nat.le_refl _ | assumption | (intros; simp only [BL] at *; omega) | (intros; (try simp only [BL] at *); (try simp only [DL] at *); omega) | (intros; simp only [BL] at *; rw [wr_id (by omega) (by omega)]; omega))); conv => whnf)
    | (refine Or.inr (And.intro rfl ?_); first | (refine congrArg intV ?_) | (refine congrArg boolV ?_) | (refine tupII ?_ ?_) | (refine tupIII ?_ ?_ ?_)))
  refine CallG.mk (Fn.mono (two _) ?_)
  rintro obs r ⟨rfl, rfl⟩
  conv => whnf
  repeat' (first
    | (refine NilG.mk fun bn hbn => ?_; conv => whnf)
    | (refine Br.mk (fun hb => ?_) (fun hb => ?_) <;> (first | (exfalso; revert hb; decide) | ((try simp only [BL] at hb) <;> (try simp only [DL] at hb) <;> conv => whnf)))
    | (refine And.intro ?_ ?_; (focus (first | exact id | exact rfl | exact trivial | (intro hg; first | exact hg | exact rfl | (simp; done) | (simp at hg ⊢; assumption)) | omega | decide | exact is2_c _ _ _ | exact is1_c _ _ | exact isS_c _ _ | exact isB_c _ _ | exact Nat.le_refl _ | assumption | (intros; simp only [BL] at *; omega) | (intros; (try simp only [BL] at *); (try simp only [DL] at *); omega) | (intros; simp only [BL] at *; rw [wr_id (by omega) (by omega)]; omega) | exact ⟨is2_c _ _ _, by decide, by decide⟩)); conv => whnf)
    | (refine Or.inr (And.intro rfl ?_); first | (refine congrArg intV ?_) | (refine congrArg boolV ?_) | (refine tupII ?_ ?_) | (refine tupIII ?_ ?_ ?_)))
  all_goals decide

theorem costLaw (s : ByteArray) (n : Nat) (p q : Nat → Int) (x : Int) (hs : s.size ≤ maxLen) (hn : n ≤ maxLen) : Fn1 Try.prog 8 [offV s n p q, intV x] (boolV true) := by
  refine fn_of_wpx (O := lex) tab_ok gamC_ok mixed Try.func8 (by kernel_rfl) rfl rfl rfl (by simp [Try.ntmps8]) (by kernel_rfl) ?_
  conv => whnf
  repeat' (first
    | (refine NilG.mk fun bn hbn => ?_; conv => whnf)
    | (refine Br.mk (fun hb => ?_) (fun hb => ?_) <;> (first | (exfalso; revert hb; decide) | ((try simp only [BL] at hb) <;> (try simp only [DL] at hb) <;> conv => whnf)))
    | (refine And.intro ?_ ?_; (focus (first | exact id | exact rfl | exact trivial | (intro hg; first | exact hg | exact rfl | (simp; done) | (simp at hg ⊢; assumption)) | omega | decide | exact is2_c _ _ _ | exact is1_c _ _ | exact isS_c _ _ | exact isB_c _ _ | exact Nat.le_refl _ | assumption | (intros; simp only [BL] at *; omega) | (intros; (try simp only [BL] at *); (try simp only [DL] at *); omega) | (intros; simp only [BL] at *; rw [wr_id (by omega) (by omega)]; omega))); conv => whnf)
    | (refine Or.inr (And.intro rfl ?_); first | (refine congrArg intV ?_) | (refine congrArg boolV ?_) | (refine tupII ?_ ?_) | (refine tupIII ?_ ?_ ?_)))
  refine CallG.mk (Fn.mono costs ?_)
  rintro obs r ⟨rfl, rfl⟩
  conv => whnf
  repeat' (first
    | (refine NilG.mk fun bn hbn => ?_; conv => whnf)
    | (refine Br.mk (fun hb => ?_) (fun hb => ?_) <;> (first | (exfalso; revert hb; decide) | ((try simp only [BL] at hb) <;> (try simp only [DL] at hb) <;> conv => whnf)))
    | (refine And.intro ?_ ?_; (focus (first | exact id | exact rfl | exact trivial | (intro hg; first | exact hg | exact rfl | (simp; done) | (simp at hg ⊢; assumption)) | omega | decide | exact is2_c _ _ _ | exact is1_c _ _ | exact isS_c _ _ | exact isB_c _ _ | exact Nat.le_refl _ | assumption | (intros; simp only [BL] at *; omega) | (intros; (try simp only [BL] at *); (try simp only [DL] at *); omega) | (intros; simp only [BL] at *; rw [wr_id (by omega) (by omega)]; omega) | first | exact ⟨is2_c _ _ _, hs, hn⟩ | exact fun hg => ⟨is2_c _ _ _, (offE_zero (of_decide_eq_true hg)).2⟩)); conv => whnf)
    | (refine Or.inr (And.intro rfl ?_); first | (refine congrArg intV ?_) | (refine congrArg boolV ?_) | (refine tupII ?_ ?_) | (refine tupIII ?_ ?_ ?_)))
  · rcases hb with h | h <;> exact absurd trivial h
  · rw [if_pos hb.1] at hb
    exact absurd rfl hb.2
  · rename_i h1 h2
    have hE : offXE s n p q x = 4 := by
      unfold offXE
      rw [if_neg (by simp [h2.1]), if_pos (by omega)]
    simp only [DL]
    simp [hE]
  · have hE : offXE s n p q x = offE s n p q := by
      unfold offXE
      rw [if_pos hb]
    simp only [DL]
    simp [hE, hb]
  · rename_i h1 h2 h3
    have h := (offE_zero h3).2
    have hx : x ≤ S p n := by
      rcases h2 with h2 | h2
      · exact absurd h3 h2
      · omega
    have hS := h.S0 (Nat.le_refl n)
    have hE : offXE s n p q x = 0 := by
      unfold offXE
      rw [if_neg (by simp [h3]), if_neg (by omega)]
    have hw : IntKind.i64.wrap (x - 1) = x - 1 := wr_id (by omega) (by omega)
    clear h1 h2
    refine And.intro (⟨is2_c _ _ _, h⟩) ?_
    conv => whnf
    repeat' (first
      | (refine NilG.mk fun bn hbn => ?_; conv => whnf)
      | (refine Br.mk (fun hb => ?_) (fun hb => ?_) <;> (first | (exfalso; revert hb; decide) | ((try simp only [BL] at hb) <;> (try simp only [DL] at hb) <;> conv => whnf)))
      | (refine And.intro ?_ ?_; (focus (first | exact id | exact rfl | exact trivial | (intro hg; first | exact hg | exact rfl | (simp; done) | (simp at hg ⊢; assumption)) | omega | decide | exact is2_c _ _ _ | exact is1_c _ _ | exact isS_c _ _ | exact isB_c _ _ | exact Nat.le_refl _ | assumption | (intros; simp only [BL] at *; omega) | (intros; (try simp only [BL] at *); (try simp only [DL] at *); omega) | (intros; simp only [BL] at *; rw [wr_id (by omega) (by omega)]; omega) | first | exact fun _ => ⟨is2_c _ _ _, h⟩ | exact fun _ => ⟨is2_c _ _ _, h, by omega, by omega⟩)); conv => whnf)
      | (refine Or.inr (And.intro rfl ?_); first | (refine congrArg intV ?_) | (refine congrArg boolV ?_) | (refine tupII ?_ ?_) | (refine tupIII ?_ ?_ ?_)))
    · simp only [DL, hw, hE]
      simp [hb]
  · rename_i h1 h2 h3
    have h := (offE_zero h3).2
    have hx : 0 ≤ x ∧ x ≤ S p n := by
      rcases h2 with h2 | h2
      · exact absurd h3 h2
      · omega
    have hS := h.S0 (Nat.le_refl n)
    have hE : offXE s n p q x = 0 := by
      unfold offXE
      rw [if_neg (by simp [h3]), if_neg (by omega)]
    clear h1 h2
    refine And.intro (fun _ => ⟨is2_c _ _ _, h, by omega, by omega⟩) ?_
    conv => whnf
    repeat' (first
      | (refine NilG.mk fun bn hbn => ?_; conv => whnf)
      | (refine Br.mk (fun hb => ?_) (fun hb => ?_) <;> (first | (exfalso; revert hb; decide) | ((try simp only [BL] at hb) <;> (try simp only [DL] at hb) <;> conv => whnf)))
      | (refine And.intro ?_ ?_; (focus (first | exact id | exact rfl | exact trivial | (intro hg; first | exact hg | exact rfl | (simp; done) | (simp at hg ⊢; assumption)) | omega | decide | exact is2_c _ _ _ | exact is1_c _ _ | exact isS_c _ _ | exact isB_c _ _ | exact Nat.le_refl _ | assumption | (intros; simp only [BL] at *; omega) | (intros; (try simp only [BL] at *); (try simp only [DL] at *); omega) | (intros; simp only [BL] at *; rw [wr_id (by omega) (by omega)]; omega) | first | exact fun _ => ⟨is2_c _ _ _, h⟩ | exact fun _ => ⟨is2_c _ _ _, h, by omega, by omega⟩)); conv => whnf)
      | (refine Or.inr (And.intro rfl ?_); first | (refine congrArg intV ?_) | (refine congrArg boolV ?_) | (refine tupII ?_ ?_) | (refine tupIII ?_ ?_ ?_)))
    · simp only [DL, hE]
      simp [hb]

end Go.Proofs.Ytogibhkbckfgbaa
