/-
  The package unit: Next, Range; the reference's Moved.
-/
import Derived.Test.YtdakikgebfphmaaUnit
namespace Go.Proofs.Ytdakikgebfphmaa
open Go.RowKit

def ordM : Ord := fun id => if id = 8 then some (.go 0 (.go 1 (.go 2 (.fork (.alt 3 (.go 4 (.go 5 (.go 6 (.done)))) (.alt 4 (.go 3 (.go 5 (.go 6 (.done)))) (.none))))))) else none

set_option maxHeartbeats 4000000 in
theorem umoved (r : Rul) (on : Bool) (si po x : Int) (h : staE r on si po = 0) : Fn1 Try.prog 91 [rV r, uV on si po, intV x] (nV r on si po x) := by
  refine fn_of_wpx (O := ordM) tab_ok gamU2_ok mixed Try.func91 (by kernel_rfl) rfl rfl rfl (by simp [Try.ntmps91]) (by kernel_rfl) ?_
  obtain ⟨hk, hs0, hs1, hp1, hp0⟩ := staE_zero h
  unfold okR at hk
  have hpo : 0 ≤ po ∧ po ≤ 100000 := by
    cases on
    · have := hp0 rfl; omega
    · have := hp1 rfl; omega
  have e3 : IntKind.i64.wrap (si + 1) = si + 1 := wr_id (by omega) (by omega)
  have e4 : IntKind.i64.wrap (0 - r.dn) = 0 - r.dn := wr_id (by omega) (by omega)
  have e5 : r.le ≤ x → x ≤ r.mo → IntKind.i64.wrap (x - po) = x - po := fun _ _ => wr_id (by omega) (by omega)
  clear h hp1
  cases on
  · have hp := hp0 rfl
    clear hp0
    conv => whnf
    repeat' (first
      | (refine NilG.mk fun bn hbn => ?_; conv => whnf)
      | (refine Both.mk ?_ ?_ <;> conv => whnf)
      | exact trivial
      | (refine Br.mk (fun hb => ?_) (fun hb => ?_) <;> (first | (exfalso; revert hb; decide) | ((try simp only [BL] at hb) <;> (try simp only [DL] at hb) <;> conv => whnf)))
      | (refine And.intro ?_ ?_; (focus (first | exact id | exact rfl | exact trivial | (intro hg; first | exact hg | exact rfl | (simp; done) | (simp at hg ⊢; assumption)) | omega | decide | exact is2_c _ _ _ | exact is1_c _ _ | exact isS_c _ _ | exact isB_c _ _ | exact Nat.le_refl _ | assumption | exact mulLe (by decide) (by omega) | exact mulLe2 (by decide) (by omega) (by omega) | (intros; simp only [BL] at *; omega) | (intros; (try simp only [BL] at *); (try simp only [DL] at *); omega) | (intros; simp only [BL] at *; rw [wr_id (by omega) (by omega)]; omega) | (intro h1 h2; exact Bool.and_eq_true_iff.2 ⟨h1, h2⟩) | (intros; simp_all; done))); conv => whnf)
      | (refine Or.inr (And.intro rfl ?_); first | (refine congrArg intV ?_) | (refine congrArg boolV ?_) | (refine tupII ?_ ?_) | (refine tupIII ?_ ?_ ?_) | (refine tupU ?_ ?_ ?_ ?_ ?_) | exact rfl))
    all_goals simp only [e3, e4, BL] at *
    all_goals (try (have e6 := e5 (by omega) (by omega); simp only [e6] at *))
    all_goals clear e3 e4 e5
    all_goals simp only [nB, nS, nP, nC, nOn]
    all_goals (repeat' split) <;> first | omega | (simp_all; done) | (simp_all <;> omega)
  · clear hp0
    conv => whnf
    repeat' (first
      | (refine NilG.mk fun bn hbn => ?_; conv => whnf)
      | (refine Both.mk ?_ ?_ <;> conv => whnf)
      | exact trivial
      | (refine Br.mk (fun hb => ?_) (fun hb => ?_) <;> (first | (exfalso; revert hb; decide) | ((try simp only [BL] at hb) <;> (try simp only [DL] at hb) <;> conv => whnf)))
      | (refine And.intro ?_ ?_; (focus (first | exact id | exact rfl | exact trivial | (intro hg; first | exact hg | exact rfl | (simp; done) | (simp at hg ⊢; assumption)) | omega | decide | exact is2_c _ _ _ | exact is1_c _ _ | exact isS_c _ _ | exact isB_c _ _ | exact Nat.le_refl _ | assumption | exact mulLe (by decide) (by omega) | exact mulLe2 (by decide) (by omega) (by omega) | (intros; simp only [BL] at *; omega) | (intros; (try simp only [BL] at *); (try simp only [DL] at *); omega) | (intros; simp only [BL] at *; rw [wr_id (by omega) (by omega)]; omega) | (intro h1 h2; exact Bool.and_eq_true_iff.2 ⟨h1, h2⟩) | (intros; simp_all; done))); conv => whnf)
      | (refine Or.inr (And.intro rfl ?_); first | (refine congrArg intV ?_) | (refine congrArg boolV ?_) | (refine tupII ?_ ?_) | (refine tupIII ?_ ?_ ?_) | (refine tupU ?_ ?_ ?_ ?_ ?_) | exact rfl))
    all_goals simp only [e3, e4, BL] at *
    all_goals (try (have e6 := e5 (by omega) (by omega); simp only [e6] at *))
    all_goals clear e3 e4 e5
    all_goals simp only [nB, nS, nP, nC, nOn]
    all_goals (repeat' split) <;> first | omega | (simp_all; done) | (simp_all <;> omega)

def gamU3 : Gam := fun f => match f with
  | 89 => some (sRU (fun r _ _ _ => r.nm.size ≤ maxLen) fun r on si po => intV (staE r on si po))
  | 92 => some (sRUi (fun r on si po _ => staE r on si po = 0) nV)
  | _ => none
theorem gamU3_ok : GOk Try.prog gamU3 := fun f g h => by
  unfold gamU3 at h
  split at h
  · injection h with h; subst h; exact sRU_ok uState
  · injection h with h; subst h; exact sRUi_ok unext
  · cases h

/-- Next: state, cost, error -/
abbrev xV (r : Rul) (on : Bool) (si po x : Int) : AV := .tup [uV (if staE r on si po = 0 then nB r on si po x else false) (if staE r on si po = 0 then nS r on si po x else 0) (if staE r on si po = 0 then nP r on si po x else 0),
  intV (if staE r on si po = 0 then nC r on si po x else 0), intV (if staE r on si po = 0 then nOn r on si po x else staE r on si po)]

/-- Range: least, most, error -/
def gE (r : Rul) (on : Bool) (si po : Int) : Int := if staE r on si po ≠ 0 then staE r on si po else if on = false ∧ si < r.mf then 12 else 0
def gL (r : Rul) (on : Bool) (si po : Int) : Int := if gE r on si po ≠ 0 then 0 else if on = true then max r.le (po - r.dn) else r.le
def gM (r : Rul) (on : Bool) (si po : Int) : Int := if gE r on si po ≠ 0 then 0 else if on = true then min r.mo (po + r.up) else r.mo
end Go.Proofs.Ytdakikgebfphmaa
