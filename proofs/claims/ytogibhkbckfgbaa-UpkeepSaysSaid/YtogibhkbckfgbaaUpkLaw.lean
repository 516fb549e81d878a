/-
  UpkeepSays holds: upkeep's Check and Verify return what the reference returns, whatever the input.
-/
import Derived.Test.YtogibhkbckfgbaaUpk4
namespace Go.Proofs.Ytogibhkbckfgbaa
open Go.RowKit Go.ChangeShapes Go.WideShapes

def gamK5 : Gam := fun f => match f with
  | 57 => some (sTx (fun t nx _ => t.ok ∧ nx ≤ maxLen) fun t nx x => .tup [intV (if veE t x nx = 0 then S (coK t x) t.n else 0), intV (veE t x nx)])
  | 59 => some (sT Tsk.ok fun t => intV (tskE t))
  | 58 => some (sT Tsk.ok fun t => intV (tskE t))
  | 60 => some (sTx (fun t nx _ => tskE t = 0 ∧ nx ≤ maxLen) fun t nx x => intV (plE t x nx))
  | 61 => some (sTx (fun t nx x => tskE t = 0 ∧ nx = t.n ∧ fst (dyE t x) t.n = 0) fun t _ x => intV (S (coK t x) t.n))
  | _ => none
theorem gamK5_ok : GOk Try.prog gamK5 := fun f g h => by
  unfold gamK5 at h
  split at h
  · injection h with h; subst h; exact sTx_ok fun t nx x hp => upVerify t x nx hp.1 hp.2
  · injection h with h; subst h; exact sT_ok upCheck
  · injection h with h; subst h; exact sT_ok upErr
  · injection h with h; subst h; exact sTx_ok fun t nx x hp => upPlan t x nx hp.1 hp.2
  · injection h with h; subst h; exact sTx_ok fun t nx x hp => by obtain ⟨h1, rfl, h2⟩ := hp; exact upCost t x h1 h2
  · cases h

theorem upLaw (t : Tsk) (x : Nat → Int) (nx : Nat) (ht : t.ok) (hnx : nx ≤ maxLen) : Fn1 Try.prog 12 [tV t, .c (.sl 1 nx (c1 x))] (boolV true) := by
  refine fn_of_wpx (O := lex) tab_ok gamK5_ok mixed Try.func12 (by kernel_rfl) rfl rfl rfl (by simp [Try.ntmps12]) (by kernel_rfl) ?_
  conv => whnf
  repeat' (first
    | (refine NilG.mk fun bn hbn => ?_; conv => whnf)
    | (refine Both.mk ?_ ?_ <;> conv => whnf)
    | exact trivial
    | (refine Br.mk (fun hb => ?_) (fun hb => ?_) <;> (first | (exfalso; revert hb; decide) | ((try simp only [BL] at hb) <;> (try simp only [DL] at hb) <;> conv => whnf)))
    | (refine And.intro ?_ ?_; (focus (first | exact id | exact rfl | exact trivial | (intro hg; first | exact hg | exact rfl | (simp; done) | (simp at hg ⊢; assumption)) | omega | decide | exact is2_c _ _ _ | exact is1_c _ _ | exact isS_c _ _ | exact isB_c _ _ | exact Nat.le_refl _ | assumption | exact mulLe (by decide) (by omega) | exact mulLe2 (by decide) (by omega) (by omega) | (intros; simp only [BL] at *; omega) | (intros; (try simp only [BL] at *); (try simp only [DL] at *); omega) | (intros; simp only [BL] at *; rw [wr_id (by omega) (by omega)]; omega) | (intros; simp_all; done) | exact ⟨isT_c t, is1_c _ _, ht, hnx⟩ | exact ⟨isT_c t, ht⟩)); conv => whnf)
    | (refine Or.inr (And.intro rfl ?_); first | (refine congrArg intV ?_) | (refine congrArg boolV ?_) | (refine tupII ?_ ?_) | (refine tupIII ?_ ?_ ?_) | (refine tupU ?_ ?_ ?_ ?_ ?_) | exact rfl))
  refine And.intro ⟨⟨fun k hk j hj => ?_, fun k hk j hj => ?_⟩, fun k hk j hj => ?_, ⟨by decide, by decide, fun k hk => ?_⟩, by decide⟩ ?_
  · match k, j, hk, hj with
    | 0, 0, _, _ => rfl
    | 0, 1, _, _ => rfl
    | 0, 2, _, _ => rfl
    | 0, 3, _, _ => rfl
    | 0, 4, _, _ => rfl
    | 1, 0, _, _ => rfl
    | 1, 1, _, _ => rfl
    | 1, 2, _, _ => rfl
    | 1, 3, _, _ => rfl
    | 1, 4, _, _ => rfl
  · match k, j, hk, hj with
    | 0, 0, _, _ => rfl
    | 0, 1, _, _ => rfl
  · match k, j, hk, hj with
    | 0, 0, _, _ => rfl
    | 1, 0, _, _ => rfl
  · match k, hk with
    | 0, _ => exact (by decide)
    | 1, _ => exact (by decide)
  conv => whnf
  repeat' (first
    | (refine NilG.mk fun bn hbn => ?_; conv => whnf)
    | (refine Both.mk ?_ ?_ <;> conv => whnf)
    | exact trivial
    | (refine Br.mk (fun hb => ?_) (fun hb => ?_) <;> (first | (exfalso; revert hb; decide) | ((try simp only [BL] at hb) <;> (try simp only [DL] at hb) <;> conv => whnf)))
    | (refine And.intro ?_ ?_; (focus (first | exact id | exact rfl | exact trivial | (intro hg; first | exact hg | exact rfl | (simp; done) | (simp at hg ⊢; assumption)) | omega | decide | exact is2_c _ _ _ | exact is1_c _ _ | exact isS_c _ _ | exact isB_c _ _ | exact Nat.le_refl _ | assumption | exact mulLe (by decide) (by omega) | exact mulLe2 (by decide) (by omega) (by omega) | (intros; simp only [BL] at *; omega) | (intros; (try simp only [BL] at *); (try simp only [DL] at *); omega) | (intros; simp only [BL] at *; rw [wr_id (by omega) (by omega)]; omega) | (intros; simp_all; done) | exact ⟨isT_c t, is1_c _ _, ht, hnx⟩ | exact ⟨isT_c t, ht⟩)); conv => whnf)
    | (refine Or.inr (And.intro rfl ?_); first | (refine congrArg intV ?_) | (refine congrArg boolV ?_) | (refine tupII ?_ ?_) | (refine tupIII ?_ ?_ ?_) | (refine tupU ?_ ?_ ?_ ?_ ?_) | exact rfl))
  · exfalso
    revert hb
    decide +kernel
  · exact absurd trivial hb
  · have h0 : tskE t = 0 := hb
    have hE : veE t x nx = plE t x nx := by unfold veE; rw [if_neg (fun h => h h0)]
    have hz : plE t x nx = 0 → nx = t.n ∧ fst (dyE t x) t.n = 0 := fun h => by
      unfold plE at h
      split at h
      · cases h
      · split at h
        · rename_i q1 q2; exact absurd h q2
        · rename_i q1 q2; exact ⟨by omega, by simpa using q2⟩
    refine And.intro ⟨isT_c t, is1_c _ _, h0, hnx⟩ ?_
    conv => whnf
    repeat' (first
      | (refine NilG.mk fun bn hbn => ?_; conv => whnf)
      | (refine Both.mk ?_ ?_ <;> conv => whnf)
      | exact trivial
      | (refine Br.mk (fun hb => ?_) (fun hb => ?_) <;> (first | (exfalso; revert hb; decide) | ((try simp only [BL] at hb) <;> (try simp only [DL] at hb) <;> conv => whnf)))
      | (refine And.intro ?_ ?_; (focus (first | exact id | exact rfl | exact trivial | (intro hg; first | exact hg | exact rfl | (simp; done) | (simp at hg ⊢; assumption)) | omega | decide | exact is2_c _ _ _ | exact is1_c _ _ | exact isS_c _ _ | exact isB_c _ _ | exact Nat.le_refl _ | assumption | exact mulLe (by decide) (by omega) | exact mulLe2 (by decide) (by omega) (by omega) | (intros; simp only [BL] at *; omega) | (intros; (try simp only [BL] at *); (try simp only [DL] at *); omega) | (intros; simp only [BL] at *; rw [wr_id (by omega) (by omega)]; omega) | (intros; simp_all; done) | exact fun hg => ⟨isT_c t, is1_c _ _, h0, hz (by rw [← hE]; simp only [BL] at hg; exact hg)⟩)); conv => whnf)
      | (refine Or.inr (And.intro rfl ?_); first | (refine congrArg intV ?_) | (refine congrArg boolV ?_) | (refine tupII ?_ ?_) | (refine tupIII ?_ ?_ ?_) | (refine tupU ?_ ?_ ?_ ?_ ?_) | exact rfl))
    · have h1 : ¬ plE t x nx = 0 := hb
      show (veE t x nx == plE t x nx && (if veE t x nx = 0 then S (coK t x) t.n else 0) == 0) = true
      rw [hE, if_neg h1]
      simp
    · have h1 : plE t x nx = 0 := hb
      show (veE t x nx == 0 && (if veE t x nx = 0 then S (coK t x) t.n else 0) == S (coK t x) t.n) = true
      rw [hE, h1]
      simp
  · have h0 : ¬ tskE t = 0 := hb
    have hE : veE t x nx = tskE t := if_pos h0
    show (veE t x nx == tskE t && (if veE t x nx = 0 then S (coK t x) t.n else 0) == 0) = true
    rw [hE, if_neg h0]
    simp
  · rename_i h1
    exact absurd hb h1

def tyTsk : Ty := .st (.cons (.sl (.st (.cons .s (.cons (.i .i64) (.cons (.i .i64) (.cons (.i .i64) (.cons (.i .i64) .nil))))))) (.cons (.sl (.ar 2 (.i .i64))) (.cons (.i .i64) .nil)))

theorem upkeepSays_own : ownKnob Try.prog.godebug = none := by kernel_rfl
theorem upkeepSays_laid : laidOutB Try.prog = true := by kernel_rfl

set_option maxRecDepth 100000 in
theorem upkeepSays_lifted (os : Os) (started : os.Started) (H : Type) (enc : TypeId × Value → H) :
    ReturnsInHanded {} Try.checked os 12 .any (Rows.upkeepSaysSpec.pre6 enc Try.prog Try.f12 Rows.upkeepSaysRow.domain false) (Rows.upkeepSaysSpec.post enc Try.prog Try.f12 false true false false) := by
  refine returnsInHanded_of_change (C := Try.checked) upkeepSays_own started (by kernel_rfl) Try.func12
    (ChangeSpec.witness6 (enc := enc) (C := Try.checked) false ⟨#[], #[.agg #[.slice none 0 0, .slice none 0 0, .int .i64 0], .slice none 0 0], []⟩ 8 (by kernel_rfl) (by kernel_rfl) (by kernel_rfl) (by kernel_rfl)) ?_
  intro W base args ds gs before hval0 hW hcnd _
  have hval : ∀ (j : Nat) t v, Try.f12.params[j]? = some t → args[j]? = some v → Value.okWide Try.prog W .any base t v := hval0
  have hW' : DataW.Whole enc Try.prog Try.f12.params.toList Rows.upkeepSaysSpec.vars false W args.toList ds gs before := hW
  exact law_post (P := Try.prog) [tyTsk, .sl (.i .i64)] (by kernel_rfl) upkeepSays_laid (by kernel_rfl) rfl (tb := 4) rfl (by kernel_rfl) (fun ds h => by
    match ds, h with
    | [d1, d2], _ => rfl) (fun x hx => upLaw ⟨x.1.1.1, fun k => (x.1.1.2 k).1, fun k => (x.1.1.2 k).2.1, fun k => (x.1.1.2 k).2.2.1, fun k => (x.1.1.2 k).2.2.2.1, fun k => (x.1.1.2 k).2.2.2.2.1, x.1.2.1.1, fun k => x.1.2.1.2 k 0, fun k => x.1.2.1.2 k 1, x.1.2.2.1⟩ x.2.1.2 x.2.1.1 ⟨hx.1.1.1, hx.1.2.1.1, fun k hk => (hx.1.1.2 k hk).1⟩ hx.2.1.1) W args ds gs before hval hW'

theorem upkeepSays_holds : Rows.UpkeepSaysSaid :=
  OpenClaim.holds_of_wide 12 Try.f12 rfl rfl rfl rfl rfl rfl rfl ⟨rfl, rfl, rfl, rfl, rfl⟩ rfl rfl rfl rfl rfl (by kernel_rfl) Try.func12 (by kernel_rfl)
    (of_decide_eq_true (by kernel_rfl)) (by unfold Func.isWrapper; rw [if_neg (by decide +kernel)]; exact ⟨rfl, rfl⟩)
    (fun os started H enc _ => upkeepSays_lifted os started H enc)
end Go.Proofs.Ytogibhkbckfgbaa
