/-
  The law HoursChanges: the walk.
-/
import Derived.Test.YtdakikgebfphmaaHblM
import Derived.Test.YtdakikgebfphmaaHblK
namespace Go.Proofs.Ytdakikgebfphmaa
open Go.RowKit Go.ChangeShapes Go.WideShapes

theorem fst_ge2 {e : Nat → Int} {i : Nat} (h : fst e i ≠ 0) : ∀ {n : Nat}, i ≤ n → fst e n = fst e i
  | 0, hi => by rw [show i = 0 by omega]
  | n + 1, hi => by
    rcases Nat.lt_or_eq_of_le hi with hlt | rfl
    · have ih := fst_ge2 (n := n) h (by omega)
      simp only [fst]
      rw [if_pos (by rw [ih]; exact h), ih]
    · rfl
theorem lCell_at : ∀ (l : List Int) (k : Nat), k < l.length → lCell l k 0 = iL (lF' l k)
  | [], k, h => absurd h (Nat.not_lt_zero _)
  | v :: l, 0, _ => rfl
  | v :: l, k + 1, h => lCell_at l k (by simpa using h)
def ordHc : Ord := fun id => if id = 24 then some (.go 0 (.go 8 (.go 1 (.go 2 (.fork (.alt 3 (.fork (.alt 4 (.go 5 (.go 6 (.go 7 (.go 9 (.go 10 (.go 11 (.go 12 (.go 13 (.go 14 (.done)))))))))) (.alt 5 (.fork (.alt 4 (.go 6 (.go 7 (.go 9 (.go 10 (.go 11 (.go 12 (.go 13 (.go 14 (.done))))))))) (.alt 6 (.fork (.alt 4 (.go 7 (.go 9 (.go 10 (.go 11 (.go 12 (.go 13 (.go 14 (.done)))))))) (.alt 7 (.go 9 (.fork (.alt 4 (.go 10 (.go 11 (.go 12 (.go 13 (.go 14 (.done)))))) (.alt 10 (.go 4 (.go 11 (.go 12 (.go 13 (.go 14 (.done)))))) (.none))))) (.none)))) (.alt 7 (.go 9 (.fork (.alt 4 (.go 6 (.go 10 (.go 11 (.go 12 (.go 13 (.go 14 (.done))))))) (.alt 6 (.fork (.alt 4 (.go 10 (.go 11 (.go 12 (.go 13 (.go 14 (.done)))))) (.alt 10 (.go 4 (.go 11 (.go 12 (.go 13 (.go 14 (.done)))))) (.none)))) (.alt 10 (.fork (.alt 4 (.go 6 (.go 11 (.go 12 (.go 13 (.go 14 (.done)))))) (.alt 6 (.go 4 (.go 11 (.go 12 (.go 13 (.go 14 (.done)))))) (.none)))) (.none)))))) (.none))))) (.alt 6 (.fork (.alt 4 (.go 5 (.go 7 (.go 9 (.go 10 (.go 11 (.go 12 (.go 13 (.go 14 (.done))))))))) (.alt 5 (.fork (.alt 4 (.go 7 (.go 9 (.go 10 (.go 11 (.go 12 (.go 13 (.go 14 (.done)))))))) (.alt 7 (.go 9 (.fork (.alt 4 (.go 10 (.go 11 (.go 12 (.go 13 (.go 14 (.done)))))) (.alt 10 (.go 4 (.go 11 (.go 12 (.go 13 (.go 14 (.done)))))) (.none))))) (.none)))) (.alt 7 (.go 9 (.fork (.alt 4 (.go 5 (.go 10 (.go 11 (.go 12 (.go 13 (.go 14 (.done))))))) (.alt 5 (.fork (.alt 4 (.go 10 (.go 11 (.go 12 (.go 13 (.go 14 (.done)))))) (.alt 10 (.go 4 (.go 11 (.go 12 (.go 13 (.go 14 (.done)))))) (.none)))) (.alt 10 (.fork (.alt 4 (.go 5 (.go 11 (.go 12 (.go 13 (.go 14 (.done)))))) (.alt 5 (.go 4 (.go 11 (.go 12 (.go 13 (.go 14 (.done)))))) (.none)))) (.none)))))) (.none))))) (.alt 7 (.go 9 (.fork (.alt 4 (.go 5 (.go 6 (.go 10 (.go 11 (.go 12 (.go 13 (.go 14 (.done)))))))) (.alt 5 (.fork (.alt 4 (.go 6 (.go 10 (.go 11 (.go 12 (.go 13 (.go 14 (.done))))))) (.alt 6 (.fork (.alt 4 (.go 10 (.go 11 (.go 12 (.go 13 (.go 14 (.done)))))) (.alt 10 (.go 4 (.go 11 (.go 12 (.go 13 (.go 14 (.done)))))) (.none)))) (.alt 10 (.fork (.alt 4 (.go 6 (.go 11 (.go 12 (.go 13 (.go 14 (.done)))))) (.alt 6 (.go 4 (.go 11 (.go 12 (.go 13 (.go 14 (.done)))))) (.none)))) (.none))))) (.alt 6 (.fork (.alt 4 (.go 5 (.go 10 (.go 11 (.go 12 (.go 13 (.go 14 (.done))))))) (.alt 5 (.fork (.alt 4 (.go 10 (.go 11 (.go 12 (.go 13 (.go 14 (.done)))))) (.alt 10 (.go 4 (.go 11 (.go 12 (.go 13 (.go 14 (.done)))))) (.none)))) (.alt 10 (.fork (.alt 4 (.go 5 (.go 11 (.go 12 (.go 13 (.go 14 (.done)))))) (.alt 5 (.go 4 (.go 11 (.go 12 (.go 13 (.go 14 (.done)))))) (.none)))) (.none))))) (.alt 10 (.fork (.alt 4 (.go 5 (.go 6 (.go 11 (.go 12 (.go 13 (.go 14 (.done))))))) (.alt 5 (.fork (.alt 4 (.go 6 (.go 11 (.go 12 (.go 13 (.go 14 (.done)))))) (.alt 6 (.go 4 (.go 11 (.go 12 (.go 13 (.go 14 (.done)))))) (.none)))) (.alt 6 (.fork (.alt 4 (.go 5 (.go 11 (.go 12 (.go 13 (.go 14 (.done)))))) (.alt 5 (.go 4 (.go 11 (.go 12 (.go 13 (.go 14 (.done)))))) (.none)))) (.none))))) (.none))))))) (.none)))))) (.alt 5 (.fork (.alt 3 (.fork (.alt 4 (.go 6 (.go 7 (.go 9 (.go 10 (.go 11 (.go 12 (.go 13 (.go 14 (.done))))))))) (.alt 6 (.fork (.alt 4 (.go 7 (.go 9 (.go 10 (.go 11 (.go 12 (.go 13 (.go 14 (.done)))))))) (.alt 7 (.go 9 (.fork (.alt 4 (.go 10 (.go 11 (.go 12 (.go 13 (.go 14 (.done)))))) (.alt 10 (.go 4 (.go 11 (.go 12 (.go 13 (.go 14 (.done)))))) (.none))))) (.none)))) (.alt 7 (.go 9 (.fork (.alt 4 (.go 6 (.go 10 (.go 11 (.go 12 (.go 13 (.go 14 (.done))))))) (.alt 6 (.fork (.alt 4 (.go 10 (.go 11 (.go 12 (.go 13 (.go 14 (.done)))))) (.alt 10 (.go 4 (.go 11 (.go 12 (.go 13 (.go 14 (.done)))))) (.none)))) (.alt 10 (.fork (.alt 4 (.go 6 (.go 11 (.go 12 (.go 13 (.go 14 (.done)))))) (.alt 6 (.go 4 (.go 11 (.go 12 (.go 13 (.go 14 (.done)))))) (.none)))) (.none)))))) (.none))))) (.alt 6 (.fork (.alt 3 (.fork (.alt 4 (.go 7 (.go 9 (.go 10 (.go 11 (.go 12 (.go 13 (.go 14 (.done)))))))) (.alt 7 (.go 9 (.fork (.alt 4 (.go 10 (.go 11 (.go 12 (.go 13 (.go 14 (.done)))))) (.alt 10 (.go 4 (.go 11 (.go 12 (.go 13 (.go 14 (.done)))))) (.none))))) (.none)))) (.alt 7 (.go 9 (.fork (.alt 3 (.fork (.alt 4 (.go 10 (.go 11 (.go 12 (.go 13 (.go 14 (.done)))))) (.alt 10 (.go 4 (.go 11 (.go 12 (.go 13 (.go 14 (.done)))))) (.none)))) (.alt 10 (.go 3 (.go 4 (.go 11 (.go 12 (.go 13 (.go 14 (.done))))))) (.none))))) (.none)))) (.alt 7 (.go 9 (.fork (.alt 3 (.fork (.alt 4 (.go 6 (.go 10 (.go 11 (.go 12 (.go 13 (.go 14 (.done))))))) (.alt 6 (.fork (.alt 4 (.go 10 (.go 11 (.go 12 (.go 13 (.go 14 (.done)))))) (.alt 10 (.go 4 (.go 11 (.go 12 (.go 13 (.go 14 (.done)))))) (.none)))) (.alt 10 (.fork (.alt 4 (.go 6 (.go 11 (.go 12 (.go 13 (.go 14 (.done)))))) (.alt 6 (.go 4 (.go 11 (.go 12 (.go 13 (.go 14 (.done)))))) (.none)))) (.none))))) (.alt 6 (.fork (.alt 3 (.fork (.alt 4 (.go 10 (.go 11 (.go 12 (.go 13 (.go 14 (.done)))))) (.alt 10 (.go 4 (.go 11 (.go 12 (.go 13 (.go 14 (.done)))))) (.none)))) (.alt 10 (.go 3 (.go 4 (.go 11 (.go 12 (.go 13 (.go 14 (.done))))))) (.none)))) (.alt 10 (.fork (.alt 3 (.fork (.alt 4 (.go 6 (.go 11 (.go 12 (.go 13 (.go 14 (.done)))))) (.alt 6 (.go 4 (.go 11 (.go 12 (.go 13 (.go 14 (.done)))))) (.none)))) (.alt 6 (.go 3 (.go 4 (.go 11 (.go 12 (.go 13 (.go 14 (.done))))))) (.none)))) (.none)))))) (.none))))) (.alt 6 (.fork (.alt 3 (.fork (.alt 4 (.go 5 (.go 7 (.go 9 (.go 10 (.go 11 (.go 12 (.go 13 (.go 14 (.done))))))))) (.alt 5 (.fork (.alt 4 (.go 7 (.go 9 (.go 10 (.go 11 (.go 12 (.go 13 (.go 14 (.done)))))))) (.alt 7 (.go 9 (.fork (.alt 4 (.go 10 (.go 11 (.go 12 (.go 13 (.go 14 (.done)))))) (.alt 10 (.go 4 (.go 11 (.go 12 (.go 13 (.go 14 (.done)))))) (.none))))) (.none)))) (.alt 7 (.go 9 (.fork (.alt 4 (.go 5 (.go 10 (.go 11 (.go 12 (.go 13 (.go 14 (.done))))))) (.alt 5 (.fork (.alt 4 (.go 10 (.go 11 (.go 12 (.go 13 (.go 14 (.done)))))) (.alt 10 (.go 4 (.go 11 (.go 12 (.go 13 (.go 14 (.done)))))) (.none)))) (.alt 10 (.fork (.alt 4 (.go 5 (.go 11 (.go 12 (.go 13 (.go 14 (.done)))))) (.alt 5 (.go 4 (.go 11 (.go 12 (.go 13 (.go 14 (.done)))))) (.none)))) (.none)))))) (.none))))) (.alt 5 (.fork (.alt 3 (.fork (.alt 4 (.go 7 (.go 9 (.go 10 (.go 11 (.go 12 (.go 13 (.go 14 (.done)))))))) (.alt 7 (.go 9 (.fork (.alt 4 (.go 10 (.go 11 (.go 12 (.go 13 (.go 14 (.done)))))) (.alt 10 (.go 4 (.go 11 (.go 12 (.go 13 (.go 14 (.done)))))) (.none))))) (.none)))) (.alt 7 (.go 9 (.fork (.alt 3 (.fork (.alt 4 (.go 10 (.go 11 (.go 12 (.go 13 (.go 14 (.done)))))) (.alt 10 (.go 4 (.go 11 (.go 12 (.go 13 (.go 14 (.done)))))) (.none)))) (.alt 10 (.go 3 (.go 4 (.go 11 (.go 12 (.go 13 (.go 14 (.done))))))) (.none))))) (.none)))) (.alt 7 (.go 9 (.fork (.alt 3 (.fork (.alt 4 (.go 5 (.go 10 (.go 11 (.go 12 (.go 13 (.go 14 (.done))))))) (.alt 5 (.fork (.alt 4 (.go 10 (.go 11 (.go 12 (.go 13 (.go 14 (.done)))))) (.alt 10 (.go 4 (.go 11 (.go 12 (.go 13 (.go 14 (.done)))))) (.none)))) (.alt 10 (.fork (.alt 4 (.go 5 (.go 11 (.go 12 (.go 13 (.go 14 (.done)))))) (.alt 5 (.go 4 (.go 11 (.go 12 (.go 13 (.go 14 (.done)))))) (.none)))) (.none))))) (.alt 5 (.fork (.alt 3 (.fork (.alt 4 (.go 10 (.go 11 (.go 12 (.go 13 (.go 14 (.done)))))) (.alt 10 (.go 4 (.go 11 (.go 12 (.go 13 (.go 14 (.done)))))) (.none)))) (.alt 10 (.go 3 (.go 4 (.go 11 (.go 12 (.go 13 (.go 14 (.done))))))) (.none)))) (.alt 10 (.fork (.alt 3 (.fork (.alt 4 (.go 5 (.go 11 (.go 12 (.go 13 (.go 14 (.done)))))) (.alt 5 (.go 4 (.go 11 (.go 12 (.go 13 (.go 14 (.done)))))) (.none)))) (.alt 5 (.go 3 (.go 4 (.go 11 (.go 12 (.go 13 (.go 14 (.done))))))) (.none)))) (.none)))))) (.none))))) (.alt 7 (.go 9 (.fork (.alt 3 (.fork (.alt 4 (.go 5 (.go 6 (.go 10 (.go 11 (.go 12 (.go 13 (.go 14 (.done)))))))) (.alt 5 (.fork (.alt 4 (.go 6 (.go 10 (.go 11 (.go 12 (.go 13 (.go 14 (.done))))))) (.alt 6 (.fork (.alt 4 (.go 10 (.go 11 (.go 12 (.go 13 (.go 14 (.done)))))) (.alt 10 (.go 4 (.go 11 (.go 12 (.go 13 (.go 14 (.done)))))) (.none)))) (.alt 10 (.fork (.alt 4 (.go 6 (.go 11 (.go 12 (.go 13 (.go 14 (.done)))))) (.alt 6 (.go 4 (.go 11 (.go 12 (.go 13 (.go 14 (.done)))))) (.none)))) (.none))))) (.alt 6 (.fork (.alt 4 (.go 5 (.go 10 (.go 11 (.go 12 (.go 13 (.go 14 (.done))))))) (.alt 5 (.fork (.alt 4 (.go 10 (.go 11 (.go 12 (.go 13 (.go 14 (.done)))))) (.alt 10 (.go 4 (.go 11 (.go 12 (.go 13 (.go 14 (.done)))))) (.none)))) (.alt 10 (.fork (.alt 4 (.go 5 (.go 11 (.go 12 (.go 13 (.go 14 (.done)))))) (.alt 5 (.go 4 (.go 11 (.go 12 (.go 13 (.go 14 (.done)))))) (.none)))) (.none))))) (.alt 10 (.fork (.alt 4 (.go 5 (.go 6 (.go 11 (.go 12 (.go 13 (.go 14 (.done))))))) (.alt 5 (.fork (.alt 4 (.go 6 (.go 11 (.go 12 (.go 13 (.go 14 (.done)))))) (.alt 6 (.go 4 (.go 11 (.go 12 (.go 13 (.go 14 (.done)))))) (.none)))) (.alt 6 (.fork (.alt 4 (.go 5 (.go 11 (.go 12 (.go 13 (.go 14 (.done)))))) (.alt 5 (.go 4 (.go 11 (.go 12 (.go 13 (.go 14 (.done)))))) (.none)))) (.none))))) (.none)))))) (.alt 5 (.fork (.alt 3 (.fork (.alt 4 (.go 6 (.go 10 (.go 11 (.go 12 (.go 13 (.go 14 (.done))))))) (.alt 6 (.fork (.alt 4 (.go 10 (.go 11 (.go 12 (.go 13 (.go 14 (.done)))))) (.alt 10 (.go 4 (.go 11 (.go 12 (.go 13 (.go 14 (.done)))))) (.none)))) (.alt 10 (.fork (.alt 4 (.go 6 (.go 11 (.go 12 (.go 13 (.go 14 (.done)))))) (.alt 6 (.go 4 (.go 11 (.go 12 (.go 13 (.go 14 (.done)))))) (.none)))) (.none))))) (.alt 6 (.fork (.alt 3 (.fork (.alt 4 (.go 10 (.go 11 (.go 12 (.go 13 (.go 14 (.done)))))) (.alt 10 (.go 4 (.go 11 (.go 12 (.go 13 (.go 14 (.done)))))) (.none)))) (.alt 10 (.go 3 (.go 4 (.go 11 (.go 12 (.go 13 (.go 14 (.done))))))) (.none)))) (.alt 10 (.fork (.alt 3 (.fork (.alt 4 (.go 6 (.go 11 (.go 12 (.go 13 (.go 14 (.done)))))) (.alt 6 (.go 4 (.go 11 (.go 12 (.go 13 (.go 14 (.done)))))) (.none)))) (.alt 6 (.go 3 (.go 4 (.go 11 (.go 12 (.go 13 (.go 14 (.done))))))) (.none)))) (.none))))) (.alt 6 (.fork (.alt 3 (.fork (.alt 4 (.go 5 (.go 10 (.go 11 (.go 12 (.go 13 (.go 14 (.done))))))) (.alt 5 (.fork (.alt 4 (.go 10 (.go 11 (.go 12 (.go 13 (.go 14 (.done)))))) (.alt 10 (.go 4 (.go 11 (.go 12 (.go 13 (.go 14 (.done)))))) (.none)))) (.alt 10 (.fork (.alt 4 (.go 5 (.go 11 (.go 12 (.go 13 (.go 14 (.done)))))) (.alt 5 (.go 4 (.go 11 (.go 12 (.go 13 (.go 14 (.done)))))) (.none)))) (.none))))) (.alt 5 (.fork (.alt 3 (.fork (.alt 4 (.go 10 (.go 11 (.go 12 (.go 13 (.go 14 (.done)))))) (.alt 10 (.go 4 (.go 11 (.go 12 (.go 13 (.go 14 (.done)))))) (.none)))) (.alt 10 (.go 3 (.go 4 (.go 11 (.go 12 (.go 13 (.go 14 (.done))))))) (.none)))) (.alt 10 (.fork (.alt 3 (.fork (.alt 4 (.go 5 (.go 11 (.go 12 (.go 13 (.go 14 (.done)))))) (.alt 5 (.go 4 (.go 11 (.go 12 (.go 13 (.go 14 (.done)))))) (.none)))) (.alt 5 (.go 3 (.go 4 (.go 11 (.go 12 (.go 13 (.go 14 (.done))))))) (.none)))) (.none))))) (.alt 10 (.fork (.alt 3 (.fork (.alt 4 (.go 5 (.go 6 (.go 11 (.go 12 (.go 13 (.go 14 (.done))))))) (.alt 5 (.fork (.alt 4 (.go 6 (.go 11 (.go 12 (.go 13 (.go 14 (.done)))))) (.alt 6 (.go 4 (.go 11 (.go 12 (.go 13 (.go 14 (.done)))))) (.none)))) (.alt 6 (.fork (.alt 4 (.go 5 (.go 11 (.go 12 (.go 13 (.go 14 (.done)))))) (.alt 5 (.go 4 (.go 11 (.go 12 (.go 13 (.go 14 (.done)))))) (.none)))) (.none))))) (.alt 5 (.fork (.alt 3 (.fork (.alt 4 (.go 6 (.go 11 (.go 12 (.go 13 (.go 14 (.done)))))) (.alt 6 (.go 4 (.go 11 (.go 12 (.go 13 (.go 14 (.done)))))) (.none)))) (.alt 6 (.go 3 (.go 4 (.go 11 (.go 12 (.go 13 (.go 14 (.done))))))) (.none)))) (.alt 6 (.fork (.alt 3 (.fork (.alt 4 (.go 5 (.go 11 (.go 12 (.go 13 (.go 14 (.done)))))) (.alt 5 (.go 4 (.go 11 (.go 12 (.go 13 (.go 14 (.done)))))) (.none)))) (.alt 5 (.go 3 (.go 4 (.go 11 (.go 12 (.go 13 (.go 14 (.done))))))) (.none)))) (.none))))) (.none))))))) (.none)))))))))) else if id = 43 then some (.go 0 (.go 2 (.go 5 (.go 9 (.go 11 (.go 15 (.go 1 (.go 3 (.go 4 (.go 6 (.fork (.alt 7 (.fork (.alt 8 (.go 17 (.go 10 (.go 12 (.go 13 (.go 14 (.go 16 (.go 18 (.done)))))))) (.alt 10 (.go 12 (.fork (.alt 8 (.go 17 (.go 13 (.go 14 (.go 16 (.go 18 (.done)))))) (.alt 13 (.go 14 (.go 16 (.go 8 (.go 17 (.go 18 (.done)))))) (.none))))) (.none)))) (.alt 10 (.go 12 (.fork (.alt 7 (.fork (.alt 8 (.go 17 (.go 13 (.go 14 (.go 16 (.go 18 (.done)))))) (.alt 13 (.go 14 (.go 16 (.go 8 (.go 17 (.go 18 (.done)))))) (.none)))) (.alt 13 (.go 14 (.go 16 (.go 7 (.go 8 (.go 17 (.go 18 (.done))))))) (.none))))) (.none)))))))))))))) else none
set_option maxHeartbeats 8000000 in
theorem hcLaw (s : Nat → ByteArray) (m : Nat → Nat) (p q : Nat → Nat → Int) (n nx : Nat) (x : Nat → Int) (T g : Int) (hn : n ≤ maxLen) (hk : ∀ k, k < n → (s k).size ≤ maxLen ∧ m k ≤ maxLen) (hnx : nx ≤ maxLen) :
    Fn1 Try.prog 10 [.c (.sl 2 n (cO s m p q)), .c (.sl 1 nx (c1 x)), intV T, intV g] (boolV true) := by
  refine fn_of_wpx (O := ordHc) tab_ok gamG2_ok mixed Try.func10 (by kernel_rfl) rfl rfl rfl (by simp [Try.ntmps10]) (by kernel_rfl) ?_
  have hn' : n ≤ 9223372036854775807 := hn
  have hnx' : nx ≤ 9223372036854775807 := hnx
  conv => whnf
  repeat' (first
    | (refine NilG.mk fun bn hbn => ?_; conv => whnf)
    | (refine Both.mk ?_ ?_ <;> conv => whnf)
    | exact trivial
    | (refine Br.mk (fun hb => ?_) (fun hb => ?_) <;> (first | (exfalso; revert hb; decide) | ((try simp only [BL] at hb) <;> (try simp only [DL] at hb) <;> conv => whnf)))
    | (refine And.intro ?_ ?_; (focus (first | exact id | exact rfl | exact trivial | (intro hg; first | exact hg | exact rfl | (simp; done) | (simp at hg ⊢; assumption)) | omega | decide | exact is2_c _ _ _ | exact is1_c _ _ | exact isS_c _ _ | exact isB_c _ _ | exact Nat.le_refl _ | assumption | exact mulLe (by decide) (by omega) | exact mulLe2 (by decide) (by omega) (by omega) | (intros; simp only [BL] at *; omega) | (intros; (try simp only [BL] at *); (try simp only [DL] at *); omega) | (intros; simp only [BL] at *; rw [wr_id (by omega) (by omega)]; omega) | (intro h1 h2; exact Bool.and_eq_true_iff.2 ⟨h1, h2⟩) | (intros; simp_all; done))); conv => whnf)
    | (refine Or.inr (And.intro rfl ?_); first | (refine congrArg intV ?_) | (refine congrArg boolV ?_) | (refine tupII ?_ ?_) | (refine tupIII ?_ ?_ ?_) | (refine tupU ?_ ?_ ?_ ?_ ?_) | exact rfl))
  refine CallG.mk (Fn.mono (two _) ?_)
  rintro obs r ⟨rfl, rfl⟩
  conv => whnf
  repeat' (first
    | (refine NilG.mk fun bn hbn => ?_; conv => whnf)
    | (refine Both.mk ?_ ?_ <;> conv => whnf)
    | exact trivial
    | (refine Br.mk (fun hb => ?_) (fun hb => ?_) <;> (first | (exfalso; revert hb; decide) | ((try simp only [BL] at hb) <;> (try simp only [DL] at hb) <;> conv => whnf)))
    | (refine And.intro ?_ ?_; (focus (first | exact id | exact rfl | exact trivial | (intro hg; first | exact hg | exact rfl | (simp; done) | (simp at hg ⊢; assumption)) | omega | decide | exact is2_c _ _ _ | exact is1_c _ _ | exact isS_c _ _ | exact isB_c _ _ | exact Nat.le_refl _ | assumption | exact mulLe (by decide) (by omega) | exact mulLe2 (by decide) (by omega) (by omega) | (intros; simp only [BL] at *; omega) | (intros; (try simp only [BL] at *); (try simp only [DL] at *); omega) | (intros; simp only [BL] at *; rw [wr_id (by omega) (by omega)]; omega) | (intro h1 h2; exact Bool.and_eq_true_iff.2 ⟨h1, h2⟩) | (intros; simp_all; done))); conv => whnf)
    | (refine Or.inr (And.intro rfl ?_); first | (refine congrArg intV ?_) | (refine congrArg boolV ?_) | (refine tupII ?_ ?_) | (refine tupIII ?_ ?_ ?_) | (refine tupU ?_ ?_ ?_ ?_ ?_) | exact rfl))
  refine CallG.mk (Fn.mono (two _) ?_)
  rintro obs r ⟨rfl, rfl⟩
  conv => whnf
  repeat' (first
    | (refine NilG.mk fun bn hbn => ?_; conv => whnf)
    | (refine Both.mk ?_ ?_ <;> conv => whnf)
    | exact trivial
    | (refine Br.mk (fun hb => ?_) (fun hb => ?_) <;> (first | (exfalso; revert hb; decide) | ((try simp only [BL] at hb) <;> (try simp only [DL] at hb) <;> conv => whnf)))
    | (refine And.intro ?_ ?_; (focus (first | exact id | exact rfl | exact trivial | (intro hg; first | exact hg | exact rfl | (simp; done) | (simp at hg ⊢; assumption)) | omega | decide | exact is2_c _ _ _ | exact is1_c _ _ | exact isS_c _ _ | exact isB_c _ _ | exact Nat.le_refl _ | assumption | exact mulLe (by decide) (by omega) | exact mulLe2 (by decide) (by omega) (by omega) | (intros; simp only [BL] at *; omega) | (intros; (try simp only [BL] at *); (try simp only [DL] at *); omega) | (intros; simp only [BL] at *; rw [wr_id (by omega) (by omega)]; omega) | (intro h1 h2; exact Bool.and_eq_true_iff.2 ⟨h1, h2⟩) | (intros; simp_all; done))); conv => whnf)
    | (refine Or.inr (And.intro rfl ?_); first | (refine congrArg intV ?_) | (refine congrArg boolV ?_) | (refine tupII ?_ ?_) | (refine tupIII ?_ ?_ ?_) | (refine tupU ?_ ?_ ?_ ?_ ?_) | exact rfl))
  refine CallG.mk (Fn.mono ((changeR (xS ⟨#[65]⟩ ⟨#[66]⟩) xM xP xQ 2 2 zX 22 2 (by decide) (fun k hk => ?_) (by decide)).le (Le.cons (Le1.l (LLe.sl fun k hk j hj => ?_)) (Le.cons (Le1.sl fun k hk j hj => ?_) (Le.cons (Le1.refl _) (Le.cons (Le1.refl _) Le.nil))))) ?_)
  · match k, hk with
    | 0, _ => exact ⟨by decide, by decide⟩
    | 1, _ => exact ⟨by decide, by decide⟩
  · match k, j, hk, hj with
    | 0, 0, _, _ => exact LLe.of_eq rfl
    | 0, 1, _, _ => exact LLe.of_eq rfl
    | 1, 0, _, _ => exact LLe.of_eq rfl
    | 1, 1, _, _ => exact LLe.of_eq rfl
  · match k, j, hk, hj with
    | 0, 0, _, _ => rfl
    | 1, 0, _, _ => rfl
  rintro obs r ⟨rfl, K, gg, c, rfl, _, hg1⟩
  obtain ⟨rfl, π0, y0, hq0, rfl, rfl, hc0⟩ := hg1 zE
  rw [zC hq0] at hc0
  rw [zE, hc0]
  clear hg1 hq0 hc0
  conv => whnf
  repeat' (first
    | (refine NilG.mk fun bn hbn => ?_; conv => whnf)
    | (refine Both.mk ?_ ?_ <;> conv => whnf)
    | exact trivial
    | (refine Br.mk (fun hb => ?_) (fun hb => ?_) <;> (first | (exfalso; revert hb; decide) | ((try simp only [BL] at hb) <;> (try simp only [DL] at hb) <;> conv => whnf)))
    | (refine And.intro ?_ ?_; (focus (first | exact id | exact rfl | exact trivial | (intro hg; first | exact hg | exact rfl | (simp; done) | (simp at hg ⊢; assumption)) | omega | decide | exact is2_c _ _ _ | exact is1_c _ _ | exact isS_c _ _ | exact isB_c _ _ | exact Nat.le_refl _ | assumption | exact mulLe (by decide) (by omega) | exact mulLe2 (by decide) (by omega) (by omega) | (intros; simp only [BL] at *; omega) | (intros; (try simp only [BL] at *); (try simp only [DL] at *); omega) | (intros; simp only [BL] at *; rw [wr_id (by omega) (by omega)]; omega) | (intro h1 h2; exact Bool.and_eq_true_iff.2 ⟨h1, h2⟩) | (intros; simp_all; done))); conv => whnf)
    | (refine Or.inr (And.intro rfl ?_); first | (refine congrArg intV ?_) | (refine congrArg boolV ?_) | (refine tupII ?_ ?_) | (refine tupIII ?_ ?_ ?_) | (refine tupU ?_ ?_ ?_ ?_ ?_) | exact rfl))
  refine CallG.mk (Fn.mono (changeR s m p q n nx x T g hn hk hnx) ?_)
  rintro obs r ⟨rfl, K, gg, c, rfl, hz0, hz1⟩
  conv => whnf
  repeat' (first
    | (refine NilG.mk fun bn hbn => ?_; conv => whnf)
    | (refine Both.mk ?_ ?_ <;> conv => whnf)
    | exact trivial
    | (refine Br.mk (fun hb => ?_) (fun hb => ?_) <;> (first | (exfalso; revert hb; decide) | ((try simp only [BL] at hb) <;> (try simp only [DL] at hb) <;> conv => whnf)))
    | (refine And.intro ?_ ?_; (focus (first | exact id | exact rfl | exact trivial | (intro hg; first | exact hg | exact rfl | (simp; done) | (simp at hg ⊢; assumption)) | omega | decide | exact is2_c _ _ _ | exact is1_c _ _ | exact isS_c _ _ | exact isB_c _ _ | exact Nat.le_refl _ | assumption | exact mulLe (by decide) (by omega) | exact mulLe2 (by decide) (by omega) (by omega) | (intros; simp only [BL] at *; omega) | (intros; (try simp only [BL] at *); (try simp only [DL] at *); omega) | (intros; simp only [BL] at *; rw [wr_id (by omega) (by omega)]; omega) | (intro h1 h2; exact Bool.and_eq_true_iff.2 ⟨h1, h2⟩) | exact isO_c hn hk | (intros; simp_all; done))); conv => whnf)
    | (refine Or.inr (And.intro rfl ?_); first | (refine congrArg intV ?_) | (refine congrArg boolV ?_) | (refine tupII ?_ ?_) | (refine tupIII ?_ ?_ ?_) | (refine tupU ?_ ?_ ?_ ?_ ?_) | exact rfl))
  · have h0 : offsE n s m p q = 0 := hb.1
    have h1 : dxE n nx s m p q x = 3 := by unfold dxE; rw [if_neg (fun h => h h0), if_pos (by omega)]
    have hE : hgE n nx s m p q x T g = 3 := by unfold hgE; rw [if_pos (by rw [h1]; decide), h1]
    obtain ⟨rfl, rfl⟩ := hz0 (by rw [hE]; decide)
    rw [hE]
    clear hz0 hz1
    refine sem_loop tab_ok gamG2_ok mixed (by kernel_rfl) (O := ordHc) (fun i : Nat => ⟨[(2, intV T), (4, .lp 0 0), (5, .lp 1 0), (7, .lp 2 0), (11, .lp 3 0), (12, intV 3), (13, intV 3), (14, intV 0)], [.box [.c (.sl 2 n (cO s m p q))], .box [.c (.sl 1 nx (c1 x))], .box [intV g], .box [.c (.sl 1 0 (c1 gg)), intV 0]]⟩) (fun i => True) (fun i => 0) ⟨0, [?_, ?_, ?_, ?_], trivial, ?_⟩ fun i hi => ?_
    rotate_left 4
    · refine Sub.of ?_ ?_ ?_
      repeat' (first | (refine And.intro ?_ ?_) | exact trivial | exact fun _ _ _ => hsc _ _ | (exact congrArg intV (by first | with_reducible rfl | with_reducible assumption)) | exact (rfl : AV.idsLt _ _ = true) | exact (rfl : _ = AV.ren _ (.own _)) | exact (rfl : _ = AV.ren _ (.fn _ _)) | exact (rfl : _ = AV.ren _ (.gh _)) | (exact congrArg intV (by assumption)) | (refine congrArg intV ((wr_id (by omega) (by omega)).trans (by omega))) | exact rfl | (simp only [Int.toNat_natCast, Int.toNat_zero, Nat.sub_zero, Nat.zero_add]; first | exact rfl | done) | exact all0 | exact fun h => Bool.noConfusion h | exact fun _ _ _ _ => rfl | omega)
    conv => whnf
    repeat' (first
      | (refine NilG.mk fun bn hbn => ?_; conv => whnf)
      | (refine Both.mk ?_ ?_ <;> conv => whnf)
      | exact trivial
      | (refine Br.mk (fun hb => ?_) (fun hb => ?_) <;> (first | (exfalso; revert hb; decide) | ((try simp only [BL] at hb) <;> (try simp only [DL] at hb) <;> conv => whnf)))
      | (refine And.intro ?_ ?_; (focus (first | exact id | exact rfl | exact trivial | (intro hg; first | exact hg | exact rfl | (simp; done) | (simp at hg ⊢; assumption)) | omega | decide | exact is2_c _ _ _ | exact is1_c _ _ | exact isS_c _ _ | exact isB_c _ _ | exact Nat.le_refl _ | assumption | exact mulLe (by decide) (by omega) | exact mulLe2 (by decide) (by omega) (by omega) | (intros; simp only [BL] at *; omega) | (intros; (try simp only [BL] at *); (try simp only [DL] at *); omega) | (intros; simp only [BL] at *; rw [wr_id (by omega) (by omega)]; omega) | (intro h1 h2; exact Bool.and_eq_true_iff.2 ⟨h1, h2⟩) | (intros; simp_all; done))); conv => whnf)
      | (refine Or.inr (And.intro rfl ?_); first | (refine congrArg intV ?_) | (refine congrArg boolV ?_) | (refine tupII ?_ ?_) | (refine tupIII ?_ ?_ ?_) | (refine tupU ?_ ?_ ?_ ?_ ?_) | exact rfl))
    all_goals first | (exfalso; omega) | rfl
  by_cases h0 : offsE n s m p q = 0
  rotate_left
  · have h1 : dxE n nx s m p q x = offsE n s m p q := by unfold dxE; rw [if_pos h0]
    have hE : hgE n nx s m p q x T g = offsE n s m p q := by unfold hgE; rw [if_pos (by rw [h1]; exact h0), h1]
    obtain ⟨rfl, rfl⟩ := hz0 (by rw [hE]; exact h0)
    rw [hE]
    clear hz0 hz1 hb
    have hO0 : offsE n (dS (cO s m p q)) (oM (cO s m p q)) (oP (cO s m p q)) (oQ (cO s m p q)) = offsE n s m p q := rfl
    rw [hO0]
    generalize offsE n s m p q = E at *
    refine sem_loop tab_ok gamG2_ok mixed (by kernel_rfl) (O := ordHc) (fun i : Nat => ⟨[(2, intV T), (4, .lp 0 0), (5, .lp 1 0), (7, .lp 2 0), (11, .lp 3 0), (12, intV E), (13, intV E), (14, intV 0)], [.box [.c (.sl 2 n (cO s m p q))], .box [.c (.sl 1 nx (c1 x))], .box [intV g], .box [.c (.sl 1 0 (c1 gg)), intV 0]]⟩) (fun i => True) (fun i => 0) ⟨0, [?_, ?_, ?_, ?_], trivial, ?_⟩ fun i hi => ?_
    rotate_left 4
    · refine Sub.of ?_ ?_ ?_
      repeat' (first | (refine And.intro ?_ ?_) | exact trivial | exact fun _ _ _ => hsc _ _ | (exact congrArg intV (by first | with_reducible rfl | with_reducible assumption)) | exact (rfl : AV.idsLt _ _ = true) | exact (rfl : _ = AV.ren _ (.own _)) | exact (rfl : _ = AV.ren _ (.fn _ _)) | exact (rfl : _ = AV.ren _ (.gh _)) | (exact congrArg intV (by assumption)) | (refine congrArg intV ((wr_id (by omega) (by omega)).trans (by omega))) | exact rfl | (simp only [Int.toNat_natCast, Int.toNat_zero, Nat.sub_zero, Nat.zero_add]; first | exact rfl | done) | exact all0 | exact fun h => Bool.noConfusion h | exact fun _ _ _ _ => rfl | omega)
    conv => whnf
    repeat' (first
      | (refine NilG.mk fun bn hbn => ?_; conv => whnf)
      | (refine Both.mk ?_ ?_ <;> conv => whnf)
      | exact trivial
      | (refine Br.mk (fun hb => ?_) (fun hb => ?_) <;> (first | (exfalso; revert hb; decide) | ((try simp only [BL] at hb) <;> (try simp only [DL] at hb) <;> conv => whnf)))
      | (refine And.intro ?_ ?_; (focus (first | exact id | exact rfl | exact trivial | (intro hg; first | exact hg | exact rfl | (simp; done) | (simp at hg ⊢; assumption)) | omega | decide | exact is2_c _ _ _ | exact is1_c _ _ | exact isS_c _ _ | exact isB_c _ _ | exact Nat.le_refl _ | assumption | exact mulLe (by decide) (by omega) | exact mulLe2 (by decide) (by omega) (by omega) | (intros; simp only [BL] at *; omega) | (intros; (try simp only [BL] at *); (try simp only [DL] at *); omega) | (intros; simp only [BL] at *; rw [wr_id (by omega) (by omega)]; omega) | (intro h1 h2; exact Bool.and_eq_true_iff.2 ⟨h1, h2⟩) | (intros; simp_all; done))); conv => whnf)
      | (refine Or.inr (And.intro rfl ?_); first | (refine congrArg intV ?_) | (refine congrArg boolV ?_) | (refine tupII ?_ ?_) | (refine tupIII ?_ ?_ ?_) | (refine tupU ?_ ?_ ?_ ?_ ?_) | exact rfl))
    all_goals first | (exfalso; omega) | simp
  have hl : nx = n := by
    rcases hb with hb | hb
    · exact absurd h0 hb
    · omega
  subst hl
  have hdx : dxE nx nx s m p q x = fst (pwE m p x) nx := by unfold dxE; rw [if_neg (fun h => h h0), if_neg (fun h => h rfl)]
  obtain ⟨hn10, hall⟩ := offsE_zero h0
  have hO0 : offsE nx (dS (cO s m p q)) (oM (cO s m p q)) (oP (cO s m p q)) (oQ (cO s m p q)) = 0 := h0
  rw [hO0]
  clear hb
  generalize hEE : hgE nx nx s m p q x T g = E at hz0 hz1
  refine sem_loop tab_ok gamG2_ok mixed (by kernel_rfl) (O := ordHc) (fun i : Nat => ⟨[(2, intV T), (4, .lp 0 0), (5, .lp 1 0), (7, .lp 2 0), (11, .lp 3 0), (12, intV E), (13, intV (fst (pwE m p x) i)), (14, intV i)], [.box [.c (.sl 2 nx (cO s m p q))], .box [.c (.sl 1 nx (c1 x))], .box [intV g], .box [.c (.sl 1 K (c1 gg)), intV c]]⟩) (fun i => i ≤ nx) (fun i => nx - i) ⟨0, [?_, ?_, ?_, ?_], Nat.zero_le _, ?_⟩ fun i hi => ?_
  rotate_left 4
  · refine Sub.of ?_ ?_ ?_
    repeat' (first | (refine And.intro ?_ ?_) | exact trivial | exact fun _ _ _ => hsc _ _ | (exact congrArg intV (by first | with_reducible rfl | with_reducible assumption)) | exact (rfl : AV.idsLt _ _ = true) | exact (rfl : _ = AV.ren _ (.own _)) | exact (rfl : _ = AV.ren _ (.fn _ _)) | exact (rfl : _ = AV.ren _ (.gh _)) | (exact congrArg intV (by assumption)) | (refine congrArg intV ((wr_id (by omega) (by omega)).trans (by omega))) | exact rfl | (simp only [Int.toNat_natCast, Int.toNat_zero, Nat.sub_zero, Nat.zero_add]; first | exact rfl | done) | exact all0 | exact fun h => Bool.noConfusion h | exact fun _ _ _ _ => rfl | omega)
  have hoi := fun (h : i < nx) => (hall i h).2.1
  conv => whnf
  repeat' (first
    | (refine NilG.mk fun bn hbn => ?_; conv => whnf)
    | (refine Both.mk ?_ ?_ <;> conv => whnf)
    | exact trivial
    | (refine Br.mk (fun hb => ?_) (fun hb => ?_) <;> (first | (exfalso; revert hb; decide) | ((try simp only [BL] at hb) <;> (try simp only [DL] at hb) <;> conv => whnf)))
    | (refine And.intro ?_ ?_; (focus (first | exact id | exact rfl | exact trivial | (intro hg; first | exact hg | exact rfl | (simp; done) | (simp at hg ⊢; assumption)) | omega | decide | exact is2_c _ _ _ | exact is1_c _ _ | exact isS_c _ _ | exact isB_c _ _ | exact Nat.le_refl _ | assumption | exact mulLe (by decide) (by omega) | exact mulLe2 (by decide) (by omega) (by omega) | (intros; simp only [BL] at *; omega) | (intros; (try simp only [BL] at *); (try simp only [DL] at *); omega) | (intros; simp only [BL] at *; rw [wr_id (by omega) (by omega)]; omega) | (intro h1 h2; exact Bool.and_eq_true_iff.2 ⟨h1, h2⟩) | exact ⟨is2_c _ _ _, hoi (by omega)⟩ | (intros; simp_all; done))); conv => whnf)
    | (refine Or.inr (And.intro rfl ?_); first | (refine congrArg intV ?_) | (refine congrArg boolV ?_) | (refine tupII ?_ ?_) | (refine tupIII ?_ ?_ ?_) | (refine tupU ?_ ?_ ?_ ?_ ?_) | exact rfl))
  · have hin : i < nx := by rename_i h; omega
    have hf : fst (pwE m p x) i = 0 := by rename_i h; exact h.2
    have h1 : pwE m p x i = 4 := by unfold pwE; rw [if_pos (by omega)]
    have e1 : fst (pwE m p x) (i + 1) = 4 := (fst_at hf (by rw [h1]; decide) (Nat.lt_succ_self i)).trans h1
    have e2 : (4 : Int) = fst (pwE m p x) (i + 1) := e1.symm
    refine ⟨i + 1, [?_, ?_, ?_, ?_], by omega, by omega, ?_⟩
    rotate_left 4
    refine Sub.of ?_ ?_ ?_
    repeat' (first | (refine And.intro ?_ ?_) | exact trivial | exact fun _ _ _ => hsc _ _ | (exact congrArg intV (by first | with_reducible rfl | with_reducible assumption)) | exact (rfl : AV.idsLt _ _ = true) | exact (rfl : _ = AV.ren _ (.own _)) | exact (rfl : _ = AV.ren _ (.fn _ _)) | exact (rfl : _ = AV.ren _ (.gh _)) | (exact congrArg intV (by assumption)) | (refine congrArg intV ((wr_id (by omega) (by omega)).trans (by omega))) | exact rfl | (simp only [Int.toNat_natCast, Int.toNat_zero, Nat.sub_zero, Nat.zero_add]; first | exact rfl | done) | exact all0 | exact fun h => Bool.noConfusion h | exact fun _ _ _ _ => rfl | omega)
  · have hin : i < nx := by rename_i h; omega
    have hf : fst (pwE m p x) i = 0 := by rename_i h; exact h.2
    have h1 : pwE m p x i = 0 := by unfold pwE; rw [if_neg (by omega)]
    have e1 : fst (pwE m p x) (i + 1) = 0 := fst_next hf h1
    have e2 : fst (pwE m p x) i = fst (pwE m p x) (i + 1) := by rw [hf, e1]
    refine ⟨i + 1, [?_, ?_, ?_, ?_], by omega, by omega, ?_⟩
    rotate_left 4
    refine Sub.of ?_ ?_ ?_
    repeat' (first | (refine And.intro ?_ ?_) | exact trivial | exact fun _ _ _ => hsc _ _ | (exact congrArg intV (by first | with_reducible rfl | with_reducible assumption)) | exact (rfl : AV.idsLt _ _ = true) | exact (rfl : _ = AV.ren _ (.own _)) | exact (rfl : _ = AV.ren _ (.fn _ _)) | exact (rfl : _ = AV.ren _ (.gh _)) | (exact congrArg intV (by assumption)) | (refine congrArg intV ((wr_id (by omega) (by omega)).trans (by omega))) | exact rfl | (simp only [Int.toNat_natCast, Int.toNat_zero, Nat.sub_zero, Nat.zero_add]; first | exact rfl | done) | exact all0 | exact fun h => Bool.noConfusion h | exact fun _ _ _ _ => rfl | omega)
  · rename_i hx1 hx2
    have hf : fst (pwE m p x) i = 0 := by omega
    have hin : i = nx := by omega
    rw [hin] at hf
    have hE : E = 1 := by
      rw [← hEE]
      unfold hgE
      rw [if_neg (fun h => h (hdx.trans hf)), if_pos (by omega)]
    obtain ⟨rfl, rfl⟩ := hz0 (by omega)
    rw [hE]
    rfl
  · have hf : ¬ fst (pwE m p x) i = 0 := hb
    have h1 : dxE nx nx s m p q x = fst (pwE m p x) i := hdx.trans (fst_ge2 hf hi)
    have hE : E = fst (pwE m p x) i := by
      rw [← hEE]
      unfold hgE
      rw [if_pos (by rw [h1]; exact hf), h1]
    obtain ⟨rfl, rfl⟩ := hz0 (by rw [hE]; exact hf)
    rw [hE]
    simp
  rename_i hx1 hx2
  have hf : fst (pwE m p x) i = 0 := hb
  have hin : i = nx := by omega
  have hTg : (0 ≤ T ∧ T ≤ 1000000) ∧ 0 ≤ g ∧ g ≤ 100000 := by omega
  rw [hin] at hf
  have h1 : dxE nx nx s m p q x = 0 := hdx.trans hf
  have hE : E = if 0 ≤ T - S (hLo x g) nx ∧ T - S (hLo x g) nx ≤ S (wR (hLo x g) (hHi m p x g)) nx then 0 else 8 := by
    rw [← hEE]
    unfold hgE
    rw [if_neg (fun h => h h1), if_neg (by omega)]
  obtain ⟨_, _, _, hxb⟩ := hWin h1 hTg.2.1
  have hxc : ∀ k, k < nx → 0 ≤ x k ∧ x k ≤ 100000 ∧ S (p k) (m k) ≤ 100000 ∧ 0 ≤ S (p k) (m k) := fun k hk => by
    have g1 := hxb k hk
    have g2 := hall k hk
    omega
  have hok := fun k (hk : k < nx) => (hall k hk).2.1
  have hwb := fun z (hz : z ≤ nx) => S_le (p := wC m p q x) (a := -1200000000000) (b := 1200000000000) (k := z) fun j hj => C_le (hok j (by omega)) (x j) (Nat.le_refl _)
  clear hb hx1 hx2 hi hoi hin hall hdx hEE hO0
  refine LoopG.nil 15 3 1 rfl ?_
  refine sem_loop tab_ok gamG2_ok mixed (by kernel_rfl) (O := ordHc) (fun k : Nat => ⟨[(2, intV T), (4, .lp 0 0), (5, .lp 1 0), (7, .lp 2 0), (11, .lp 3 0), (12, intV E), (15, .own 5), (16, .lp 4 0), (121, .c (.sl 2 nx (cO s m p q))), (122, intV nx), (123, intV k)], [.box [.c (.sl 2 nx (cO s m p q))], .box [.c (.sl 1 nx (c1 x))], .box [intV g], .box [.c (.sl 1 K (c1 gg)), intV c], .box [intV (S (wC m p q x) k)], .row 3 1 k false (c1 fun k => S (p k) (m k))]⟩) (fun k => k ≤ nx ∧ (0 < k → nx ≤ 3) ∧ ∀ j, j < k → S (p j) (m j) ≤ 8) (fun k => nx - k) ⟨0, [?_, ?_, ?_, ?_, ?_, ?_], ⟨Nat.zero_le _, fun h => absurd h (by decide), fun j hj => absurd hj (Nat.not_lt_zero _)⟩, ?_⟩ fun k hki => ?_
  rotate_left 6
  · refine Sub.of ?_ ?_ ?_
    repeat' (first | (refine And.intro ?_ ?_) | exact trivial | exact fun _ _ _ => hsc _ _ | (exact congrArg intV (by first | with_reducible rfl | with_reducible assumption)) | exact (rfl : AV.idsLt _ _ = true) | exact (rfl : _ = AV.ren _ (.own _)) | exact (rfl : _ = AV.ren _ (.fn _ _)) | exact (rfl : _ = AV.ren _ (.gh _)) | (exact congrArg intV (by assumption)) | (refine congrArg intV ((wr_id (by omega) (by omega)).trans (by omega))) | exact rfl | (simp only [Int.toNat_natCast, Int.toNat_zero, Nat.sub_zero, Nat.zero_add]; first | exact rfl | done) | exact all0 | exact fun h => Bool.noConfusion h | exact fun _ _ _ _ => rfl | omega)
  have hokk := hok k
  have hxk := hxc k
  have ew : k < nx → IntKind.i64.wrap (S (wC m p q x) k + S (ct (p k) (q k) (x k)) (m k)) = S (wC m p q x) (k + 1) := fun h => by
    have k1 := hwb (k + 1) h
    have k2 : S (wC m p q x) (k + 1) = S (wC m p q x) k + S (ct (p k) (q k) (x k)) (m k) := rfl
    rw [k2] at k1 ⊢
    exact wr_id (by omega) (by omega)
  conv => whnf
  repeat' (first
    | (refine NilG.mk fun bn hbn => ?_; conv => whnf)
    | (refine Both.mk ?_ ?_ <;> conv => whnf)
    | exact trivial
    | (refine Br.mk (fun hb => ?_) (fun hb => ?_) <;> (first | (exfalso; revert hb; decide) | ((try simp only [BL] at hb) <;> (try simp only [DL] at hb) <;> conv => whnf)))
    | (refine And.intro ?_ ?_; (focus (first | exact id | exact rfl | exact trivial | (intro hg; first | exact hg | exact rfl | (simp; done) | (simp at hg ⊢; assumption)) | omega | decide | exact is2_c _ _ _ | exact is1_c _ _ | exact isS_c _ _ | exact isB_c _ _ | exact Nat.le_refl _ | assumption | exact mulLe (by decide) (by omega) | exact mulLe2 (by decide) (by omega) (by omega) | (intros; simp only [BL] at *; omega) | (intros; (try simp only [BL] at *); (try simp only [DL] at *); omega) | (intros; simp only [BL] at *; rw [wr_id (by omega) (by omega)]; omega) | (intro h1 h2; exact Bool.and_eq_true_iff.2 ⟨h1, h2⟩) | first | exact ⟨is2_c _ _ _, hokk (by omega), (hxk (by omega)).1, Int.le_trans (hxk (by omega)).2.1 (by decide)⟩ | exact ⟨is2_c _ _ _, hokk (by omega)⟩ | (intros; simp_all; done))); conv => whnf)
    | (refine Or.inr (And.intro rfl ?_); first | (refine congrArg intV ?_) | (refine congrArg boolV ?_) | (refine tupII ?_ ?_) | (refine tupIII ?_ ?_ ?_) | (refine tupU ?_ ?_ ?_ ?_ ?_) | exact rfl))
  · rfl
  iterate 136
    · have hkn : k < nx := by omega
      have ew := ew hkn
      refine ⟨k + 1, [?_, ?_, ?_, ?_, ?_, ?_], ⟨by omega, fun _ => by omega, fun j hj => by rcases Nat.lt_succ_iff_lt_or_eq.1 hj with h | rfl; exact hki.2.2 j h; omega⟩, by omega, ?_⟩
      rotate_left 6
      refine Sub.of ?_ ?_ ?_
      repeat' (first | (exact congrArg (fun z => [intV z]) ew) | (refine And.intro ?_ ?_) | exact trivial | exact fun _ _ _ => hsc _ _ | (exact congrArg intV (by first | with_reducible rfl | with_reducible assumption)) | exact (rfl : AV.idsLt _ _ = true) | exact (rfl : _ = AV.ren _ (.own _)) | exact (rfl : _ = AV.ren _ (.fn _ _)) | exact (rfl : _ = AV.ren _ (.gh _)) | (exact congrArg intV (by assumption)) | (refine congrArg intV ((wr_id (by omega) (by omega)).trans (by omega))) | exact rfl | (simp only [Int.toNat_natCast, Int.toNat_zero, Nat.sub_zero, Nat.zero_add]; first | exact rfl | done) | exact all0 | exact fun h => Bool.noConfusion h | exact fun _ _ _ _ => rfl | omega)
      intro aq haq bq hbq
      by_cases hltq : aq < k
      · exact if_pos hltq
      · obtain rfl : aq = k := by omega
        refine (if_neg hltq).trans ?_
        rw [Nat.sub_self]
        revert bq hbq
        refine all1 rfl
  obtain ⟨_, hk3, hk8⟩ := hki
  have hkn : k = nx := by omega
  subst hkn
  clear hb hokk hxk ew
  have hn3 : k ≤ 3 := by
    rcases Nat.eq_zero_or_pos k with h | h
    · omega
    · exact hk3 h
  have hlm : lmOk (fun k => S (p k) (m k)) k := ⟨hn3, fun j hj => ⟨(hxc j hj).2.2.2, hk8 j hj⟩⟩
  refine CallG.pre [5] (Fn.mono ((lists k (fun k => S (p k) (m k)) (min T 1000) hlm (by omega) (by omega)).le (Le.cons (Le1.refl _) (Le.cons (Le1.refl _) Le.nil))) ?_)
  rintro obs r ⟨rfl, rfl⟩
  conv => whnf
  repeat' (first
    | (refine NilG.mk fun bn hbn => ?_; conv => whnf)
    | (refine Both.mk ?_ ?_ <;> conv => whnf)
    | exact trivial
    | (refine Br.mk (fun hb => ?_) (fun hb => ?_) <;> (first | (exfalso; revert hb; decide) | ((try simp only [BL] at hb) <;> (try simp only [DL] at hb) <;> conv => whnf)))
    | (refine And.intro ?_ ?_; (focus (first | exact id | exact rfl | exact trivial | (intro hg; first | exact hg | exact rfl | (simp; done) | (simp at hg ⊢; assumption)) | omega | decide | exact is2_c _ _ _ | exact is1_c _ _ | exact isS_c _ _ | exact isB_c _ _ | exact Nat.le_refl _ | assumption | exact mulLe (by decide) (by omega) | exact mulLe2 (by decide) (by omega) (by omega) | (intros; simp only [BL] at *; omega) | (intros; (try simp only [BL] at *); (try simp only [DL] at *); omega) | (intros; simp only [BL] at *; rw [wr_id (by omega) (by omega)]; omega) | (intro h1 h2; exact Bool.and_eq_true_iff.2 ⟨h1, h2⟩) | (intros; simp_all; done))); conv => whnf)
    | (refine Or.inr (And.intro rfl ?_); first | (refine congrArg intV ?_) | (refine congrArg boolV ?_) | (refine tupII ?_ ?_) | (refine tupIII ?_ ?_ ?_) | (refine tupU ?_ ?_ ?_ ?_ ?_) | exact rfl))
  have hAy : ∀ i, i < (LS (fun k => S (p k) (m k)) k (min T 1000)).length → ∀ j, j < k → 0 ≤ lF' ((LS (fun k => S (p k) (m k)) k (min T 1000)).getD i []) j ∧ lF' ((LS (fun k => S (p k) (m k)) k (min T 1000)).getD i []) j ≤ 8 := fun i hi j hj => by
    obtain ⟨_, _, g3⟩ := LS_mem.1 (ls_of hi)
    have := g3 j hj
    have := hk8 j hj
    omega
  have hAl : ∀ i, i < (LS (fun k => S (p k) (m k)) k (min T 1000)).length → ((LS (fun k => S (p k) (m k)) k (min T 1000)).getD i []).length = k := fun i hi => (LS_mem.1 (ls_of hi)).1
  have hlen : (LS (fun k => S (p k) (m k)) k (min T 1000)).length ≤ 729 := Nat.le_trans (LS_len fun j hj => hk8 j hj) (Nat.pow_le_pow_right (n := 9) (by decide) hn3)
  have hmin : E = 8 ∧ (mnF (lsO x g k (LS (fun k => S (p k) (m k)) k (min T 1000))) (lsC m p q x k (LS (fun k => S (p k) (m k)) k (min T 1000))) (LS (fun k => S (p k) (m k)) k (min T 1000)).length).2 = false ∨
      E = 0 ∧ ∃ y, K = k ∧ gg = (fun k => y k - x k) ∧ c = S (wC m p q y) k - S (wC m p q x) k ∧ mnF (lsO x g k (LS (fun k => S (p k) (m k)) k (min T 1000))) (lsC m p q x k (LS (fun k => S (p k) (m k)) k (min T 1000))) (LS (fun k => S (p k) (m k)) k (min T 1000)).length = (S (wC m p q y) k - S (wC m p q x) k, true) ∧
        (∀ j, j < k → (0 ≤ y j ∧ y j ≤ S (p j) (m j)) ∧ (-g ≤ y j - x j ∧ y j - x j ≤ g)) ∧ S y k = T := by
    by_cases hc : 0 ≤ T - S (hLo x g) k ∧ T - S (hLo x g) k ≤ S (wR (hLo x g) (hHi m p x g)) k
    · rw [if_pos hc] at hE
      obtain ⟨e1, π, y, e2, e3, e4, e5⟩ := hz1 hE
      obtain ⟨f1, f2, f3⟩ := hm_some h1 hTg.2 hk8 hn3 hc e2 e3
      exact .inr ⟨hE, y, e1, e4, e5, f1, f2, f3⟩
    · rw [if_neg hc] at hE
      exact .inl ⟨hE, hm_none h1 hTg.2 hTg.1 hk8 hn3 hc⟩
  have hwk := hwb k (Nat.le_refl _)
  clear hE hz1 hxb h1 hk3
  generalize LS (fun k => S (p k) (m k)) k (min T 1000) = A at *
  refine sem_loop tab_ok gamG2_ok mixed (by kernel_rfl) (O := ordHc) (fun i : Nat => ⟨[(2, intV T), (4, .lp 0 0), (5, .lp 1 0), (11, .lp 3 0), (12, intV E), (15, .c (.sl 1 k (c1 fun k => S (p k) (m k)))), (19, .fn 54 [.lp 4 0, .lp 0 0, .lp 1 0, .lp 2 0]), (20, intV (mnF (lsO x g k A) (lsC m p q x k A) i).1), (21, boolV (mnF (lsO x g k A) (lsC m p q x k A) i).2), (154, .c (.sl 1 A.length (rowL A k))), (155, intV A.length), (156, intV i)], [.box [.c (.sl 2 k (cO s m p q))], .box [.c (.sl 1 k (c1 x))], .box [intV g], .box [.c (.sl 1 K (c1 gg)), intV c], .box [intV (S (wC m p q x) k)]]⟩) (fun i => i ≤ A.length) (fun i => A.length - i) ⟨0, [?_, ?_, ?_, ?_, ?_], Nat.zero_le _, ?_⟩ fun i hi => ?_
  rotate_left 5
  · refine Sub.of ?_ ?_ ?_
    repeat' (first | (refine And.intro ?_ ?_) | exact trivial | exact fun _ _ _ => hsc _ _ | (exact congrArg intV (by first | with_reducible rfl | with_reducible assumption)) | exact (rfl : AV.idsLt _ _ = true) | exact (rfl : _ = AV.ren _ (.own _)) | exact (rfl : _ = AV.ren _ (.fn _ _)) | exact (rfl : _ = AV.ren _ (.gh _)) | (exact congrArg intV (by assumption)) | (refine congrArg intV ((wr_id (by omega) (by omega)).trans (by omega))) | exact rfl | (simp only [Int.toNat_natCast, Int.toNat_zero, Nat.sub_zero, Nat.zero_add]; first | exact rfl | done) | exact all0 | exact fun h => Bool.noConfusion h | exact fun _ _ _ _ => rfl | omega)
  conv => whnf
  repeat' (first
    | (refine NilG.mk fun bn hbn => ?_; conv => whnf)
    | (refine Both.mk ?_ ?_ <;> conv => whnf)
    | exact trivial
    | (refine Br.mk (fun hb => ?_) (fun hb => ?_) <;> (first | (exfalso; revert hb; decide) | ((try simp only [BL] at hb) <;> (try simp only [DL] at hb) <;> conv => whnf)))
    | (refine And.intro ?_ ?_; (focus (first | exact id | exact rfl | exact trivial | (intro hg; first | exact hg | exact rfl | (simp; done) | (simp at hg ⊢; assumption)) | omega | decide | exact is2_c _ _ _ | exact is1_c _ _ | exact isS_c _ _ | exact isB_c _ _ | exact Nat.le_refl _ | assumption | exact mulLe (by decide) (by omega) | exact mulLe2 (by decide) (by omega) (by omega) | (intros; simp only [BL] at *; omega) | (intros; (try simp only [BL] at *); (try simp only [DL] at *); omega) | (intros; simp only [BL] at *; rw [wr_id (by omega) (by omega)]; omega) | (intro h1 h2; exact Bool.and_eq_true_iff.2 ⟨h1, h2⟩) | (intros; simp_all; done))); conv => whnf)
    | (refine Or.inr (And.intro rfl ?_); first | (refine congrArg intV ?_) | (refine congrArg boolV ?_) | (refine tupII ?_ ?_) | (refine tupIII ?_ ?_ ?_) | (refine tupU ?_ ?_ ?_ ?_ ?_) | exact rfl))
  · have hiA : i < A.length := by omega
    have hx100 : ∀ j, j < k → 0 ≤ x j ∧ x j ≤ 100000 := fun j hj => ⟨(hxc j hj).1, (hxc j hj).2.1⟩
    refine CallG.mk (Fn.mono ((hCostF s m p q k x (lF' (A.getD i [])) (S (wC m p q x) k) g (by omega) hok (fun j hj => by have := hAy i hiA j hj; omega) hx100 (by omega) hTg.2).le (Le.cons (Le1.sl fun a ha b hb1 => ?_) (Le.cons (Le1.refl _) (Le.cons (Le1.refl _) (Le.cons (Le1.refl _) (Le.cons (Le1.refl _) Le.nil)))))) ?_)
    · obtain rfl : b = 0 := by omega
      exact lCell_at (A.getD i []) a (by rw [hAl i hiA]; exact ha)
    rintro obs r ⟨rfl, rfl⟩
    have eO : cOk x (lF' (A.getD i [])) g k = lsO x g k A i := rfl
    have eC : S (wC m p q (lF' (A.getD i []))) k - S (wC m p q x) k = lsC m p q x k A i := rfl
    rw [eO, eC]
    have hstep : mnF (lsO x g k A) (lsC m p q x k A) (i + 1) = if lsO x g k A i = true ∧ ((mnF (lsO x g k A) (lsC m p q x k A) i).2 = false ∨ lsC m p q x k A i < (mnF (lsO x g k A) (lsC m p q x k A) i).1) then (lsC m p q x k A i, true) else mnF (lsO x g k A) (lsC m p q x k A) i := rfl
    conv => whnf
    repeat' (first
      | (refine NilG.mk fun bn hbn => ?_; conv => whnf)
      | (refine Both.mk ?_ ?_ <;> conv => whnf)
      | exact trivial
      | (refine Br.mk (fun hb => ?_) (fun hb => ?_) <;> (first | (exfalso; revert hb; decide) | ((try simp only [BL] at hb) <;> (try simp only [DL] at hb) <;> conv => whnf)))
      | (refine And.intro ?_ ?_; (focus (first | exact id | exact rfl | exact trivial | (intro hg; first | exact hg | exact rfl | (simp; done) | (simp at hg ⊢; assumption)) | omega | decide | exact is2_c _ _ _ | exact is1_c _ _ | exact isS_c _ _ | exact isB_c _ _ | exact Nat.le_refl _ | assumption | exact mulLe (by decide) (by omega) | exact mulLe2 (by decide) (by omega) (by omega) | (intros; simp only [BL] at *; omega) | (intros; (try simp only [BL] at *); (try simp only [DL] at *); omega) | (intros; simp only [BL] at *; rw [wr_id (by omega) (by omega)]; omega) | (intro h1 h2; exact Bool.and_eq_true_iff.2 ⟨h1, h2⟩) | (intros; simp_all; done))); conv => whnf)
      | (refine Or.inr (And.intro rfl ?_); first | (refine congrArg intV ?_) | (refine congrArg boolV ?_) | (refine tupII ?_ ?_) | (refine tupIII ?_ ?_ ?_) | (refine tupU ?_ ?_ ?_ ?_ ?_) | exact rfl))
    · have e1 : mnF (lsO x g k A) (lsC m p q x k A) (i + 1) = (lsC m p q x k A i, true) := by rw [hstep, if_pos hb]
      have e2 : lsC m p q x k A i = (mnF (lsO x g k A) (lsC m p q x k A) (i + 1)).1 := by rw [e1]
      have e3 : boolV true = boolV (mnF (lsO x g k A) (lsC m p q x k A) (i + 1)).2 := by rw [e1]
      refine ⟨i + 1, [?_, ?_, ?_, ?_, ?_], by omega, by omega, ?_⟩
      rotate_left 5
      refine Sub.of ?_ ?_ ?_
      repeat' (first | (exact e3) | (refine And.intro ?_ ?_) | exact trivial | exact fun _ _ _ => hsc _ _ | (exact congrArg intV (by first | with_reducible rfl | with_reducible assumption)) | exact (rfl : AV.idsLt _ _ = true) | exact (rfl : _ = AV.ren _ (.own _)) | exact (rfl : _ = AV.ren _ (.fn _ _)) | exact (rfl : _ = AV.ren _ (.gh _)) | (exact congrArg intV (by assumption)) | (refine congrArg intV ((wr_id (by omega) (by omega)).trans (by omega))) | exact rfl | (simp only [Int.toNat_natCast, Int.toNat_zero, Nat.sub_zero, Nat.zero_add]; first | exact rfl | done) | exact all0 | exact fun h => Bool.noConfusion h | exact fun _ _ _ _ => rfl | omega)
    · have e1 : mnF (lsO x g k A) (lsC m p q x k A) i = mnF (lsO x g k A) (lsC m p q x k A) (i + 1) := by
        rw [hstep, if_neg]
        rintro ⟨h1, h2⟩
        rcases hb with hb | hb
        · rw [h1] at hb; cases hb
        · rcases h2 with h2 | h2
          · rw [h2] at hb; cases hb.1
          · exact hb.2 h2
      have e2 : (mnF (lsO x g k A) (lsC m p q x k A) i).1 = (mnF (lsO x g k A) (lsC m p q x k A) (i + 1)).1 := by rw [← e1]
      have e3 : boolV (mnF (lsO x g k A) (lsC m p q x k A) i).2 = boolV (mnF (lsO x g k A) (lsC m p q x k A) (i + 1)).2 := by rw [← e1]
      refine ⟨i + 1, [?_, ?_, ?_, ?_, ?_], by omega, by omega, ?_⟩
      rotate_left 5
      refine Sub.of ?_ ?_ ?_
      repeat' (first | (exact e3) | (refine And.intro ?_ ?_) | exact trivial | exact fun _ _ _ => hsc _ _ | (exact congrArg intV (by first | with_reducible rfl | with_reducible assumption)) | exact (rfl : AV.idsLt _ _ = true) | exact (rfl : _ = AV.ren _ (.own _)) | exact (rfl : _ = AV.ren _ (.fn _ _)) | exact (rfl : _ = AV.ren _ (.gh _)) | (exact congrArg intV (by assumption)) | (refine congrArg intV ((wr_id (by omega) (by omega)).trans (by omega))) | exact rfl | (simp only [Int.toNat_natCast, Int.toNat_zero, Nat.sub_zero, Nat.zero_add]; first | exact rfl | done) | exact all0 | exact fun h => Bool.noConfusion h | exact fun _ _ _ _ => rfl | omega)
  · have hiA : i = A.length := by omega
    rw [hiA] at hb
    rcases hmin with ⟨hE, _⟩ | ⟨_, y, _, _, _, h3, _⟩
    · obtain ⟨rfl, rfl⟩ := hz0 (by omega)
      rw [hE]
      rfl
    · rw [h3] at hb
      cases hb
  · have hiA : i = A.length := by omega
    rw [hiA] at hb
    exfalso
    rcases hmin with ⟨hE, h3⟩ | ⟨hE, y, h1, h2, h4, h3, _⟩
    · rename_i h9
      rw [hiA, h3] at h9
      cases h9
    · rw [h3] at hb
      rcases hb with (hb | hb) | hb
      · exact hb hE
      · exact hb h4
      · exact hb (congrArg (fun z : Nat => (z : Int)) h1)
  have hiA : i = A.length := by omega
  subst hiA
  obtain ⟨hE, y, hK, hgg, hc, h3, hyb, hys⟩ : E = 0 ∧ ∃ y, K = k ∧ gg = (fun k => y k - x k) ∧ c = S (wC m p q y) k - S (wC m p q x) k ∧ mnF (lsO x g k A) (lsC m p q x k A) A.length = (S (wC m p q y) k - S (wC m p q x) k, true) ∧
        (∀ j, j < k → (0 ≤ y j ∧ y j ≤ S (p j) (m j)) ∧ (-g ≤ y j - x j ∧ y j - x j ≤ g)) ∧ S y k = T := by
    rcases hmin with ⟨_, h9⟩ | h9
    · rename_i h8 _
      rw [h9] at h8
      cases h8
    · exact h9
  have hx100 : ∀ j, j < k → 0 ≤ x j ∧ x j ≤ 100000 := fun j hj => ⟨(hxc j hj).1, (hxc j hj).2.1⟩
  have hy8 : ∀ j, j < k → 0 ≤ y j ∧ y j ≤ 8 := fun j hj => by
    have := hyb j hj
    have := hk8 j hj
    omega
  have hSy := fun j (hj : j ≤ k) => S_le (p := y) (a := 0) (b := 8) (k := j) fun i hi => hy8 i (by omega)
  rw [h3]
  subst hK hgg
  clear hb hmin h3 hc hz0 hAy hAl hlen hi
  conv => whnf
  repeat' (first
    | (refine NilG.mk fun bn hbn => ?_; conv => whnf)
    | (refine Both.mk ?_ ?_ <;> conv => whnf)
    | exact trivial
    | (refine Br.mk (fun hb => ?_) (fun hb => ?_) <;> (first | (exfalso; revert hb; decide) | ((try simp only [BL] at hb) <;> (try simp only [DL] at hb) <;> conv => whnf)))
    | (refine And.intro ?_ ?_; (focus (first | exact id | exact rfl | exact trivial | (intro hg; first | exact hg | exact rfl | (simp; done) | (simp at hg ⊢; assumption)) | omega | decide | exact is2_c _ _ _ | exact is1_c _ _ | exact isS_c _ _ | exact isB_c _ _ | exact Nat.le_refl _ | assumption | exact mulLe (by decide) (by omega) | exact mulLe2 (by decide) (by omega) (by omega) | (intros; simp only [BL] at *; omega) | (intros; (try simp only [BL] at *); (try simp only [DL] at *); omega) | (intros; simp only [BL] at *; rw [wr_id (by omega) (by omega)]; omega) | (intro h1 h2; exact Bool.and_eq_true_iff.2 ⟨h1, h2⟩) | (intros; simp_all; done))); conv => whnf)
    | (refine Or.inr (And.intro rfl ?_); first | (refine congrArg intV ?_) | (refine congrArg boolV ?_) | (refine tupII ?_ ?_) | (refine tupIII ?_ ?_ ?_) | (refine tupU ?_ ?_ ?_ ?_ ?_) | exact rfl))
  refine sem_loop tab_ok gamG2_ok mixed (by kernel_rfl) (O := ordHc) (fun j : Nat => ⟨[(2, intV T), (5, .lp 1 0), (15, .c (.sl 1 K (c1 fun k => S (p k) (m k)))), (19, .fn 54 [.lp 3 0, .lp 0 0, .lp 1 0, .lp 2 0]), (20, intV (S (wC m p q y) K - S (wC m p q x) K)), (26, .own 4), (27, intV (S y j)), (211, .c (.sl 1 K (c1 fun k => y k - x k))), (212, intV K), (213, intV j)], [.box [.c (.sl 2 K (cO s m p q))], .box [.c (.sl 1 K (c1 x))], .box [intV g], .box [intV (S (wC m p q x) K)], .row 3 1 j false (c1 y)]⟩) (fun j => j ≤ K) (fun j => K - j) ⟨0, [?_, ?_, ?_, ?_, ?_], Nat.zero_le _, ?_⟩ fun j hj => ?_
  rotate_left 5
  · refine Sub.of ?_ ?_ ?_
    repeat' (first | (refine And.intro ?_ ?_) | exact trivial | exact fun _ _ _ => hsc _ _ | (exact congrArg intV (by first | with_reducible rfl | with_reducible assumption)) | exact (rfl : AV.idsLt _ _ = true) | exact (rfl : _ = AV.ren _ (.own _)) | exact (rfl : _ = AV.ren _ (.fn _ _)) | exact (rfl : _ = AV.ren _ (.gh _)) | (exact congrArg intV (by assumption)) | (refine congrArg intV ((wr_id (by omega) (by omega)).trans (by omega))) | exact rfl | (simp only [Int.toNat_natCast, Int.toNat_zero, Nat.sub_zero, Nat.zero_add]; first | exact rfl | done) | exact all0 | exact fun h => Bool.noConfusion h | exact fun _ _ _ _ => rfl | omega)
  have w1 : j < K → IntKind.i64.wrap (x j + (y j - x j)) = y j := fun h => (wr_id (by have := hy8 j h; omega) (by have := hy8 j h; omega)).trans (by omega)
  have w2 : j < K → IntKind.i64.wrap (IntKind.i64.wrap (S y j + x j) + (y j - x j)) = S y (j + 1) := fun h => by
    have h1 := hx100 j h
    have h2 := hy8 j h
    have h3 := hSy j (by omega)
    have h4 := hSy (j + 1) h
    have h5 : S y (j + 1) = S y j + y j := rfl
    rw [wr_id (x := S y j + x j) (by omega) (by omega), wr_id (by omega) (by omega)]
    omega
  conv => whnf
  repeat' (first
    | (refine NilG.mk fun bn hbn => ?_; conv => whnf)
    | (refine Both.mk ?_ ?_ <;> conv => whnf)
    | exact trivial
    | (refine Br.mk (fun hb => ?_) (fun hb => ?_) <;> (first | (exfalso; revert hb; decide) | ((try simp only [BL] at hb) <;> (try simp only [DL] at hb) <;> conv => whnf)))
    | (refine And.intro ?_ ?_; (focus (first | exact id | exact rfl | exact trivial | (intro hg; first | exact hg | exact rfl | (simp; done) | (simp at hg ⊢; assumption)) | omega | decide | exact is2_c _ _ _ | exact is1_c _ _ | exact isS_c _ _ | exact isB_c _ _ | exact Nat.le_refl _ | assumption | exact mulLe (by decide) (by omega) | exact mulLe2 (by decide) (by omega) (by omega) | (intros; simp only [BL] at *; omega) | (intros; (try simp only [BL] at *); (try simp only [DL] at *); omega) | (intros; simp only [BL] at *; rw [wr_id (by omega) (by omega)]; omega) | (intro h1 h2; exact Bool.and_eq_true_iff.2 ⟨h1, h2⟩) | (intros; simp_all; done))); conv => whnf)
    | (refine Or.inr (And.intro rfl ?_); first | (refine congrArg intV ?_) | (refine congrArg boolV ?_) | (refine tupII ?_ ?_) | (refine tupIII ?_ ?_ ?_) | (refine tupU ?_ ?_ ?_ ?_ ?_) | exact rfl))
  iterate 6
    · have hjK : j < K := by omega
      have w1 := w1 hjK
      have w2 := w2 hjK
      have hyj := hyb j hjK
      refine And.intro ⟨rfl, by rw [Int.toNat_natCast]; omega, by decide⟩ ?_
      dsimp only
      rw [if_neg (show ¬ (j : Int).toNat < j by rw [Int.toNat_natCast]; omega), show (j : Int).toNat - j = 0 by rw [Int.toNat_natCast]; omega]
      conv => whnf
      repeat' (first
        | (refine NilG.mk fun bn hbn => ?_; conv => whnf)
        | (refine Both.mk ?_ ?_ <;> conv => whnf)
        | exact trivial
        | (refine Br.mk (fun hb => ?_) (fun hb => ?_) <;> (first | (exfalso; revert hb; decide) | ((try simp only [BL] at hb) <;> (try simp only [DL] at hb) <;> conv => whnf)))
        | (refine And.intro ?_ ?_; (focus (first | exact id | exact rfl | exact trivial | (intro hg; first | exact hg | exact rfl | (simp; done) | (simp at hg ⊢; assumption)) | omega | decide | exact is2_c _ _ _ | exact is1_c _ _ | exact isS_c _ _ | exact isB_c _ _ | exact Nat.le_refl _ | assumption | exact mulLe (by decide) (by omega) | exact mulLe2 (by decide) (by omega) (by omega) | (intros; simp only [BL] at *; omega) | (intros; (try simp only [BL] at *); (try simp only [DL] at *); omega) | (intros; simp only [BL] at *; rw [wr_id (by omega) (by omega)]; omega) | (intro h1 h2; exact Bool.and_eq_true_iff.2 ⟨h1, h2⟩) | (refine ⟨rfl, ?_⟩; decide) | (rw [Int.toNat_natCast]; omega) | (intros; simp_all; done))); conv => whnf)
        | (refine Or.inr (And.intro rfl ?_); first | (refine congrArg intV ?_) | (refine congrArg boolV ?_) | (refine tupII ?_ ?_) | (refine tupIII ?_ ?_ ?_) | (refine tupU ?_ ?_ ?_ ?_ ?_) | exact rfl))
      · exfalso
        have w1 : IntKind.i64.wrap (x j + (y j - x j)) = y j := w1
        rw [w1] at hb
        omega
      · refine ⟨j + 1, [?_, ?_, ?_, ?_, ?_], by omega, by omega, ?_⟩
        rotate_left 5
        refine Sub.of ?_ ?_ ?_
        repeat' (first | (refine And.intro ?_ ?_) | exact trivial | exact fun _ _ _ => hsc _ _ | (exact congrArg intV (by first | with_reducible rfl | with_reducible assumption)) | exact (rfl : AV.idsLt _ _ = true) | exact (rfl : _ = AV.ren _ (.own _)) | exact (rfl : _ = AV.ren _ (.fn _ _)) | exact (rfl : _ = AV.ren _ (.gh _)) | (exact congrArg intV (by assumption)) | (refine congrArg intV ((wr_id (by omega) (by omega)).trans (by omega))) | exact rfl | (simp only [Int.toNat_natCast, Int.toNat_zero, Nat.sub_zero, Nat.zero_add]; first | exact rfl | done) | exact all0 | exact fun h => Bool.noConfusion h | exact fun _ _ _ _ => rfl | omega)
        intro aq haq bq hbq
        by_cases hltq : aq < j
        · exact if_pos hltq
        · obtain rfl : aq = j := by omega
          refine (if_neg hltq).trans ?_
          rw [Nat.sub_self]
          revert bq hbq
          refine all1 (congrArg iL w1)
  obtain rfl : j = K := by omega
  clear hb
  refine CallG.mk (Fn.mono (hCostF s m p q j x y (S (wC m p q x) j) g (by omega) hok (fun i hi => by have := hy8 i hi; omega) hx100 (by omega) hTg.2) ?_)
  rintro obs r ⟨rfl, rfl⟩
  have hco : cOk x y g j = true := cOk_iff.2 fun i hi => (hyb i hi).2
  rw [hco, hys]
  conv => whnf
  repeat' (first
    | (refine NilG.mk fun bn hbn => ?_; conv => whnf)
    | (refine Both.mk ?_ ?_ <;> conv => whnf)
    | exact trivial
    | (refine Br.mk (fun hb => ?_) (fun hb => ?_) <;> (first | (exfalso; revert hb; decide) | ((try simp only [BL] at hb) <;> (try simp only [DL] at hb) <;> conv => whnf)))
    | (refine And.intro ?_ ?_; (focus (first | exact id | exact rfl | exact trivial | (intro hg; first | exact hg | exact rfl | (simp; done) | (simp at hg ⊢; assumption)) | omega | decide | exact is2_c _ _ _ | exact is1_c _ _ | exact isS_c _ _ | exact isB_c _ _ | exact Nat.le_refl _ | assumption | exact mulLe (by decide) (by omega) | exact mulLe2 (by decide) (by omega) (by omega) | (intros; simp only [BL] at *; omega) | (intros; (try simp only [BL] at *); (try simp only [DL] at *); omega) | (intros; simp only [BL] at *; rw [wr_id (by omega) (by omega)]; omega) | (intro h1 h2; exact Bool.and_eq_true_iff.2 ⟨h1, h2⟩) | (intros; simp_all; done))); conv => whnf)
    | (refine Or.inr (And.intro rfl ?_); first | (refine congrArg intV ?_) | (refine congrArg boolV ?_) | (refine tupII ?_ ?_) | (refine tupIII ?_ ?_ ?_) | (refine tupU ?_ ?_ ?_ ?_ ?_) | exact rfl))
  all_goals first | rfl | simp

end Go.Proofs.Ytdakikgebfphmaa
