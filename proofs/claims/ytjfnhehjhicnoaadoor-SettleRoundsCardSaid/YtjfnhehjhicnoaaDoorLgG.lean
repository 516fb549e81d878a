/-
  Large numbers: slices.Clone of words; divWords by one word; DivMod.
-/
import Derived.Test.YtjfnhehjhicnoaaDoorLgF
namespace Go.Proofs.YtjfnhehjhicnoaaDoor
open Go.RowKit

theorem Le1.of_eq {a b : AV} (h : a = b) : Le1 a b := h ▸ Le1.refl a
/-- slices.Clone of words (nil is nil) -/
theorem lgClone0 (n A : Nat) (hn : n ≤ 1000) : Fn Tryd.prog 124 [wdV n A] (fun obs r => obs = [] ∧ ((n = 0 ∧ r = .c (.v (.slice none 0 0))) ∨ ∃ k f, k = n ∧ r = .c (.sl 1 k f) ∧ Sh n 1 f (cW A))) := by
  refine fn_of_wpx (O := lex) tab_ok gamLg_ok mixed Tryd.func124 (by kernel_rfl) rfl rfl rfl (by simp [Tryd.ntmps124]) (by kernel_rfl) ?_
  conv => whnf
  repeat' (first
    | (refine NilG.mk fun bn hbn hbx => ?_; conv => whnf)
    | (refine Both.mk ?_ ?_ <;> conv => whnf)
    | ((first | (refine MkG.box 1 rfl rfl rfl (by decide) ?_) | (refine MkG.box 2 rfl rfl rfl (by decide) ?_) | (refine MkG.box 3 rfl rfl rfl (by decide) ?_) | (refine MkG.row ?_)); conv => whnf)
    | (refine LitG.row ?_; conv => whnf)
    | exact trivial
    | (refine Br.mk (fun hb => ?_) (fun hb => ?_) <;> (first | (exfalso; revert hb; decide) | ((try simp only [BL] at hb) <;> (try simp only [DL] at hb) <;> (first | (exfalso; omega) | (conv => whnf)))))
    | (refine And.intro ?_ ?_; (focus (first | exact id | exact rfl | exact trivial | (intro hg; first | exact hg | exact rfl | (simp; done) | (simp at hg ⊢; assumption)) | omega | decide | exact is2_c _ _ _ | exact is1_c _ _ | exact isS_c _ _ | exact isB_c _ _ | exact Nat.le_refl _ | assumption | exact mulLe (by decide) (by omega) | exact mulLe2 (by decide) (by omega) (by omega) | (intros; simp only [BL] at *; omega) | (intros; (try simp only [BL] at *); (try simp only [DL] at *); omega) | (intros; simp only [BL] at *; rw [wr_id (by omega) (by omega)]; omega) | (intro h1 h2; exact Bool.and_eq_true_iff.2 ⟨h1, h2⟩) | (intros; simp_all; done))); conv => whnf)
    | (refine Or.inr (And.intro rfl ?_); first | (refine congrArg intV ?_) | (refine congrArg boolV ?_) | (refine tupII ?_ ?_) | (refine tupIII ?_ ?_ ?_) | (refine tupU ?_ ?_ ?_ ?_ ?_) | exact rfl))
  · exact .inr ⟨rfl, .inl ⟨hbn (by cases bn <;> simp_all), rfl⟩⟩
  · exact .inr ⟨rfl, .inr ⟨_, _, Nat.zero_add n, rfl, fun k hk j hj => (if_neg (Nat.not_lt_zero k)).trans rfl⟩⟩
theorem lgClone (n A : Nat) (hn : n ≤ 1000) : Fn1 Tryd.prog 124 [wdV n A] (wdV n A) := by
  refine Fn.res (lgClone0 n A hn) ?_
  rintro obs r ⟨rfl, ⟨rfl, rfl⟩ | ⟨k, f, rfl, rfl, hf⟩⟩
  · exact ⟨_, ⟨rfl, rfl⟩, Le1.nil⟩
  · exact ⟨_, ⟨rfl, rfl⟩, Le1.sl hf⟩
/-- what divWords hands back -/
def dvK (A B : Nat) (obs : List OB) (r : AV) : Prop := obs = [] ∧ ∃ nq nr, nq ≤ 600 ∧ nr ≤ 600 ∧ A / B < 4294967296 ^ nq ∧ A % B < 4294967296 ^ nr ∧ r = .tup [wdV nq (A / B), wdV nr (A % B)]
def dvK0 (A B : Nat) (obs : List OB) (r : AV) : Prop := obs = [] ∧ ((A < B ∧ r = .tup [.c (.v (.slice none 0 0)), wdN A]) ∨ ∃ n f, r = .tup [wdV n (A / B), .c (.sl 1 1 f)] ∧ n ≤ 600 ∧ A / B < 4294967296 ^ n ∧ A % B < 4294967296 ∧ Sh 1 1 f (cW (A % B)))
theorem lgDivW1 (A B : Nat) (hA : wl A ≤ 500) (hB0 : 0 < B) (hB : B < 4294967296 ∨ A < B) (hBl : wl B ≤ 500) : Fn Tryd.prog 123 [wdN A, wdN B] (dvK0 A B) := by
  refine fn_of_wpx (O := ordDW) tab_ok gamLg_ok mixed Tryd.func123 (by kernel_rfl) rfl rfl rfl (by simp [Tryd.ntmps123]) (by kernel_rfl) ?_
  conv => whnf
  repeat' (first
    | (refine NilG.mk fun bn hbn hbx => ?_; conv => whnf)
    | (refine Both.mk ?_ ?_ <;> conv => whnf)
    | ((first | (refine MkG.box 1 rfl rfl rfl (by decide) ?_) | (refine MkG.box 2 rfl rfl rfl (by decide) ?_) | (refine MkG.box 3 rfl rfl rfl (by decide) ?_) | (refine MkG.row ?_)); conv => whnf)
    | (refine LitG.row ?_; conv => whnf)
    | exact trivial
    | (refine Br.mk (fun hb => ?_) (fun hb => ?_) <;> (first | (exfalso; revert hb; decide) | ((try simp only [BL] at hb) <;> (try simp only [DL] at hb) <;> (first | (exfalso; omega) | (conv => whnf)))))
    | (refine And.intro ?_ ?_; (focus (first | exact id | exact rfl | exact trivial | (intro hg; first | exact hg | exact rfl | (simp; done) | (simp at hg ⊢; assumption)) | omega | decide | exact is2_c _ _ _ | exact is1_c _ _ | exact isS_c _ _ | exact isB_c _ _ | exact Nat.le_refl _ | assumption | exact mulLe (by decide) (by omega) | exact mulLe2 (by decide) (by omega) (by omega) | (intros; simp only [BL] at *; omega) | (intros; (try simp only [BL] at *); (try simp only [DL] at *); omega) | (intros; simp only [BL] at *; rw [wr_id (by omega) (by omega)]; omega) | (intro h1 h2; exact Bool.and_eq_true_iff.2 ⟨h1, h2⟩) | (intros; simp_all; done))); conv => whnf)
    | (refine Or.inr (And.intro rfl ?_); first | (refine congrArg intV ?_) | (refine congrArg boolV ?_) | (refine tupII ?_ ?_) | (refine tupIII ?_ ?_ ?_) | (refine tupU ?_ ?_ ?_ ?_ ?_) | exact rfl))
  refine CallC.mk (Fn.mono (lgCmp A B (by omega) (by omega)) ?_)
  rintro obs r ⟨rfl, rfl⟩
  by_cases hlt : A < B
  · have h1 := cmpA_lt.2 hlt
    conv => whnf
    repeat' (first
      | (refine NilG.mk fun bn hbn hbx => ?_; conv => whnf)
      | (refine Both.mk ?_ ?_ <;> conv => whnf)
      | ((first | (refine MkG.box 1 rfl rfl rfl (by decide) ?_) | (refine MkG.box 2 rfl rfl rfl (by decide) ?_) | (refine MkG.box 3 rfl rfl rfl (by decide) ?_) | (refine MkG.row ?_)); conv => whnf)
      | (refine LitG.row ?_; conv => whnf)
      | exact trivial
      | (refine Br.mk (fun hb => ?_) (fun hb => ?_) <;> (first | (exfalso; revert hb; decide) | ((try simp only [BL] at hb) <;> (try simp only [DL] at hb) <;> (first | (exfalso; omega) | (conv => whnf)))))
      | (refine And.intro ?_ ?_; (focus (first | exact id | exact rfl | exact trivial | (intro hg; first | exact hg | exact rfl | (simp; done) | (simp at hg ⊢; assumption)) | omega | decide | exact is2_c _ _ _ | exact is1_c _ _ | exact isS_c _ _ | exact isB_c _ _ | exact Nat.le_refl _ | assumption | exact mulLe (by decide) (by omega) | exact mulLe2 (by decide) (by omega) (by omega) | (intros; simp only [BL] at *; omega) | (intros; (try simp only [BL] at *); (try simp only [DL] at *); omega) | (intros; simp only [BL] at *; rw [wr_id (by omega) (by omega)]; omega) | (intro h1 h2; exact Bool.and_eq_true_iff.2 ⟨h1, h2⟩) | (intros; simp_all; done))); conv => whnf)
      | (refine Or.inr (And.intro rfl ?_); first | (refine congrArg intV ?_) | (refine congrArg boolV ?_) | (refine tupII ?_ ?_) | (refine tupIII ?_ ?_ ?_) | (refine tupU ?_ ?_ ?_ ?_ ?_) | exact rfl))
    exact .inr ⟨rfl, .inl ⟨hlt, rfl⟩⟩
  · have h1 : ¬ cmpA A B < 0 := fun h => hlt (cmpA_lt.1 h)
    have hB1 : B < 4294967296 := hB.resolve_right hlt
    have hw := wl_one hB0 hB1
    have hd := dg_one hB1
    conv => whnf
    repeat' (first
      | (refine NilG.mk fun bn hbn hbx => ?_; conv => whnf)
      | (refine Both.mk ?_ ?_ <;> conv => whnf)
      | ((first | (refine MkG.box 1 rfl rfl rfl (by decide) ?_) | (refine MkG.box 2 rfl rfl rfl (by decide) ?_) | (refine MkG.box 3 rfl rfl rfl (by decide) ?_) | (refine MkG.row ?_)); conv => whnf)
      | (refine LitG.row ?_; conv => whnf)
      | exact trivial
      | (refine Br.mk (fun hb => ?_) (fun hb => ?_) <;> (first | (exfalso; revert hb; decide) | ((try simp only [BL] at hb) <;> (try simp only [DL] at hb) <;> (first | (exfalso; omega) | (conv => whnf)))))
      | (refine And.intro ?_ ?_; (focus (first | exact id | exact rfl | exact trivial | (intro hg; first | exact hg | exact rfl | (simp; done) | (simp at hg ⊢; assumption)) | omega | decide | exact is2_c _ _ _ | exact is1_c _ _ | exact isS_c _ _ | exact isB_c _ _ | exact Nat.le_refl _ | assumption | exact mulLe (by decide) (by omega) | exact mulLe2 (by decide) (by omega) (by omega) | (intros; simp only [BL] at *; omega) | (intros; (try simp only [BL] at *); (try simp only [DL] at *); omega) | (intros; simp only [BL] at *; rw [wr_id (by omega) (by omega)]; omega) | (intro h1 h2; exact Bool.and_eq_true_iff.2 ⟨h1, h2⟩) | (intros; simp_all; done))); conv => whnf)
      | (refine Or.inr (And.intro rfl ?_); first | (refine congrArg intV ?_) | (refine congrArg boolV ?_) | (refine tupII ?_ ?_) | (refine tupIII ?_ ?_ ?_) | (refine tupU ?_ ?_ ?_ ?_ ?_) | exact rfl))
    have hs : (u32V ((dg B 0 : Nat) : Int)) = u32V ((B : Nat) : Int) := by rw [hd]
    refine CallC.mk (Fn.mono (lgShort (wl A) A B (by omega) wl_lt hB0 hB1 |>.le (Le.cons (Le1.refl _) (Le.cons (Le1.of_eq hs) Le.nil))) ?_)
    rintro obs r ⟨rfl, rfl⟩
    conv => whnf
    repeat' (first
      | (refine NilG.mk fun bn hbn hbx => ?_; conv => whnf)
      | (refine Both.mk ?_ ?_ <;> conv => whnf)
      | ((first | (refine MkG.box 1 rfl rfl rfl (by decide) ?_) | (refine MkG.box 2 rfl rfl rfl (by decide) ?_) | (refine MkG.box 3 rfl rfl rfl (by decide) ?_) | (refine MkG.row ?_)); conv => whnf)
      | (refine LitG.row ?_; conv => whnf)
      | exact trivial
      | (refine Br.mk (fun hb => ?_) (fun hb => ?_) <;> (first | (exfalso; revert hb; decide) | ((try simp only [BL] at hb) <;> (try simp only [DL] at hb) <;> (first | (exfalso; omega) | (conv => whnf)))))
      | (refine And.intro ?_ ?_; (focus (first | exact id | exact rfl | exact trivial | (intro hg; first | exact hg | exact rfl | (simp; done) | (simp at hg ⊢; assumption)) | omega | decide | exact is2_c _ _ _ | exact is1_c _ _ | exact isS_c _ _ | exact isB_c _ _ | exact Nat.le_refl _ | assumption | exact mulLe (by decide) (by omega) | exact mulLe2 (by decide) (by omega) (by omega) | (intros; simp only [BL] at *; omega) | (intros; (try simp only [BL] at *); (try simp only [DL] at *); omega) | (intros; simp only [BL] at *; rw [wr_id (by omega) (by omega)]; omega) | (intro h1 h2; exact Bool.and_eq_true_iff.2 ⟨h1, h2⟩) | (intros; simp_all; done))); conv => whnf)
      | (refine Or.inr (And.intro rfl ?_); first | (refine congrArg intV ?_) | (refine congrArg boolV ?_) | (refine tupII ?_ ?_) | (refine tupIII ?_ ?_ ?_) | (refine tupU ?_ ?_ ?_ ?_ ?_) | exact rfl))
    refine .inr ⟨rfl, .inr ⟨wl A, _, rfl, by omega, Nat.lt_of_le_of_lt (Nat.div_le_self A B) wl_lt, Nat.lt_trans (Nat.mod_lt _ hB0) hB1, fun k hk j hj => ?_⟩⟩
    obtain rfl : k = 0 := by omega
    obtain rfl : j = 0 := by omega
    show L.v (Value.int .u32 _) = L.v (Value.int .u32 ((dg (A % B) 0 : Nat) : Int))
    rw [dg_one (Nat.lt_trans (Nat.mod_lt _ hB0) hB1)]
theorem lgDivW (A B : Nat) (hA : wl A ≤ 500) (hB0 : 0 < B) (hB : B < 4294967296 ∨ A < B) (hBl : wl B ≤ 500) : Fn Tryd.prog 123 [wdN A, wdN B] (dvK A B) := by
  refine Fn.res (lgDivW1 A B hA hB0 hB hBl) ?_
  rintro obs r ⟨rfl, ⟨h, rfl⟩ | ⟨n, f, rfl, h1, h2, h3, hf⟩⟩
  · refine ⟨_, ⟨rfl, 0, wl A, by omega, by omega, ?_, ?_, rfl⟩, ?_⟩
    · rw [Nat.div_eq_of_lt h]; decide
    · rw [Nat.mod_eq_of_lt h]; exact wl_lt
    · rw [Nat.div_eq_of_lt h, Nat.mod_eq_of_lt h]
      exact Le1.tup (Le.cons Le1.nil (Le.cons (Le1.refl _) Le.nil))
  · exact ⟨_, ⟨rfl, n, 1, h1, by decide, h2, by rw [Nat.pow_one]; exact h3, rfl⟩, Le1.tup (Le.cons (Le1.refl _) (Le.cons (Le1.sl hf) Le.nil))⟩
end Go.Proofs.YtjfnhehjhicnoaaDoor
