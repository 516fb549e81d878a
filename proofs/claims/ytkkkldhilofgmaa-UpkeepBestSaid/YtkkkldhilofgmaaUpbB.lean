/-
  upkeep.Best: what it returns.
-/
import Derived.Test.YtkkkldhilofgmaaUpbW
namespace Go.Proofs.Ytkkkldhilofgmaa
open Go.RowKit

def zD : Nat → Nat := fun _ => 0
def ubK (t : Tsk) (obs : List OB) (r : AV) : Prop := obs = [] ∧
  ((tskE t ≠ 0 ∧ r = .tup [.c (.v (.slice none 0 0)), intV 0, intV (tskE t)]) ∨ (tskE t = 0 ∧ t.n = 0 ∧ r = .tup [.c (.v (.slice none 0 0)), intV 0, intV 0]) ∨
   (tskE t = 0 ∧ dfT t t.n zD none = none ∧ r = .tup [.c (.v (.slice none 0 0)), intV 0, intV 8]) ∨ ∃ p, tskE t = 0 ∧ dfT t t.n zD none = some p ∧ r = .tup [.c (.sl 1 t.n (c1 (xd t p.1))), intV p.2, intV 0])
theorem upBest0 (t : Tsk) (ht : t.ok) : Fn Try.prog 9 [tV t] (ubK t) := by
  refine fn_of_wpx (O := lex) tab_ok gamU_ok mixed Try.func9 (by kernel_rfl) rfl rfl rfl (by simp [Try.ntmps9]) (by kernel_rfl) ?_
  conv => whnf
  repeat' (first
    | (refine NilG.mk fun bn hbn hbx => ?_; conv => whnf)
    | (refine Both.mk ?_ ?_ <;> conv => whnf)
    | exact trivial
    | (refine Br.mk (fun hb => ?_) (fun hb => ?_) <;> (first | (exfalso; revert hb; decide) | ((try simp only [BL] at hb) <;> (try simp only [DL] at hb) <;> conv => whnf)))
    | (refine And.intro ?_ ?_; (focus (first | exact id | exact rfl | exact trivial | (intro hg; first | exact hg | exact rfl | (simp; done) | (simp at hg ⊢; assumption)) | omega | decide | exact is2_c _ _ _ | exact is1_c _ _ | exact isS_c _ _ | exact isB_c _ _ | exact Nat.le_refl _ | assumption | exact mulLe (by decide) (by omega) | exact mulLe2 (by decide) (by omega) (by omega) | (intros; simp only [BL] at *; omega) | (intros; (try simp only [BL] at *); (try simp only [DL] at *); omega) | (intros; simp only [BL] at *; rw [wr_id (by omega) (by omega)]; omega) | (intro h1 h2; exact Bool.and_eq_true_iff.2 ⟨h1, h2⟩) | exact ⟨isT_c t, ht⟩ | (intros; simp_all; done))); conv => whnf)
    | (refine Or.inr (And.intro rfl ?_); first | (refine congrArg intV ?_) | (refine congrArg boolV ?_) | (refine tupII ?_ ?_) | (refine tupIII ?_ ?_ ?_) | (refine tupU ?_ ?_ ?_ ?_ ?_) | exact rfl))
  · exact .inr ⟨rfl, .inl ⟨hb, rfl⟩⟩
  · rename_i hE
    exact .inr ⟨rfl, .inr (.inl ⟨hE, by omega, rfl⟩)⟩
  rename_i hE
  have hE : tskE t = 0 := hE
  have h0 : 0 < t.n := by omega
  obtain ⟨s1, hs1⟩ : ∃ s1, dfT t t.n zD none = s1 := ⟨_, rfl⟩
  refine CallG.wr [1] rfl (FnM.mono ((tryC t hE h0 t.n 0 zD none (by omega) (fun k h => absurd h (Nat.not_lt_zero k)) (fun k h => absurd h (Nat.not_lt_zero k))).le (Le.cons (Le1.refl _) (Le.cons Le1.nil (Le.cons (Le1.refl _) Le.nil)))) ?_)
  rintro obs r ⟨rfl, rfl⟩
  rw [Nat.sub_zero, hs1]
  rcases s1 with _ | p
  · conv => whnf
    repeat' (first
      | (refine NilG.mk fun bn hbn hbx => ?_; conv => whnf)
      | (refine Both.mk ?_ ?_ <;> conv => whnf)
      | exact trivial
      | (refine Br.mk (fun hb => ?_) (fun hb => ?_) <;> (first | (exfalso; revert hb; decide) | ((try simp only [BL] at hb) <;> (try simp only [DL] at hb) <;> conv => whnf)))
      | (refine And.intro ?_ ?_; (focus (first | exact id | exact rfl | exact trivial | (intro hg; first | exact hg | exact rfl | (simp; done) | (simp at hg ⊢; assumption)) | omega | decide | exact is2_c _ _ _ | exact is1_c _ _ | exact isS_c _ _ | exact isB_c _ _ | exact Nat.le_refl _ | assumption | exact mulLe (by decide) (by omega) | exact mulLe2 (by decide) (by omega) (by omega) | (intros; simp only [BL] at *; omega) | (intros; (try simp only [BL] at *); (try simp only [DL] at *); omega) | (intros; simp only [BL] at *; rw [wr_id (by omega) (by omega)]; omega) | (intro h1 h2; exact Bool.and_eq_true_iff.2 ⟨h1, h2⟩) | (intros; simp_all; done))); conv => whnf)
      | (refine Or.inr (And.intro rfl ?_); first | (refine congrArg intV ?_) | (refine congrArg boolV ?_) | (refine tupII ?_ ?_) | (refine tupIII ?_ ?_ ?_) | (refine tupU ?_ ?_ ?_ ?_ ?_) | exact rfl))
    · exact .inr ⟨rfl, .inr (.inr (.inl ⟨hE, hs1, rfl⟩))⟩
    · exact absurd (hbx rfl) (by simpa using hb)
  · conv => whnf
    repeat' (first
      | (refine NilG.mk fun bn hbn hbx => ?_; conv => whnf)
      | (refine Both.mk ?_ ?_ <;> conv => whnf)
      | exact trivial
      | (refine Br.mk (fun hb => ?_) (fun hb => ?_) <;> (first | (exfalso; revert hb; decide) | ((try simp only [BL] at hb) <;> (try simp only [DL] at hb) <;> conv => whnf)))
      | (refine And.intro ?_ ?_; (focus (first | exact id | exact rfl | exact trivial | (intro hg; first | exact hg | exact rfl | (simp; done) | (simp at hg ⊢; assumption)) | omega | decide | exact is2_c _ _ _ | exact is1_c _ _ | exact isS_c _ _ | exact isB_c _ _ | exact Nat.le_refl _ | assumption | exact mulLe (by decide) (by omega) | exact mulLe2 (by decide) (by omega) (by omega) | (intros; simp only [BL] at *; omega) | (intros; (try simp only [BL] at *); (try simp only [DL] at *); omega) | (intros; simp only [BL] at *; rw [wr_id (by omega) (by omega)]; omega) | (intro h1 h2; exact Bool.and_eq_true_iff.2 ⟨h1, h2⟩) | (intros; simp_all; done))); conv => whnf)
      | (refine Or.inr (And.intro rfl ?_); first | (refine congrArg intV ?_) | (refine congrArg boolV ?_) | (refine tupII ?_ ?_) | (refine tupIII ?_ ?_ ?_) | (refine tupU ?_ ?_ ?_ ?_ ?_) | exact rfl))
    · have := hbn (by simpa using hb)
      omega
    · exact .inr ⟨rfl, .inr (.inr (.inr ⟨p, hE, hs1, rfl⟩))⟩
/-- the plan, its cost and the error -/
def bres (t : Tsk) : Nat × (Nat → Int) × Int × Int := if tskE t ≠ 0 then (0, fun _ => 0, 0, tskE t) else match dfT t t.n zD none with
  | none => (0, fun _ => 0, 0, 8)
  | some p => (t.n, xd t p.1, p.2, 0)
theorem upBest (t : Tsk) (ht : t.ok) : Fn1 Try.prog 9 [tV t] (.tup [.c (.sl 1 (bres t).1 (c1 (bres t).2.1)), intV (bres t).2.2.1, intV (bres t).2.2.2]) :=
  (upBest0 t ht).res fun obs r ⟨h1, h2⟩ => by
    refine ⟨_, ⟨h1, rfl⟩, ?_⟩
    unfold bres
    rcases h2 with ⟨h2, rfl⟩ | ⟨h2, h3, rfl⟩ | ⟨h2, h3, rfl⟩ | ⟨p, h2, h3, rfl⟩
    · rw [if_pos h2]
      exact Le1.tup (Le.cons Le1.nil (Le.cons (Le1.refl _) (Le.cons (Le1.refl _) Le.nil)))
    · have h4 : dfT t t.n zD none = some (zD, S (coK t (xd t zD)) t.n) := by
        rw [h3]
        exact (df_leaf (g := zD) (s := none) (by rw [h3]; exact fun k h => absurd h (Nat.not_lt_zero k)) rfl).trans (by rw [h3])
      rw [if_neg (fun h => h h2), h4]
      show Le1 _ (.tup [.c (.sl 1 t.n (c1 (xd t zD))), intV (S (coK t (xd t zD)) t.n), intV 0])
      rw [h3]
      exact Le1.tup (Le.cons Le1.nil (Le.cons (Le1.refl _) (Le.cons (Le1.refl _) Le.nil)))
    · rw [if_neg (fun h => h h2), h3]
      exact Le1.tup (Le.cons Le1.nil (Le.cons (Le1.refl _) (Le.cons (Le1.refl _) Le.nil)))
    · rw [if_neg (fun h => h h2), h3]
      exact Le1.refl _
end Go.Proofs.Ytkkkldhilofgmaa
