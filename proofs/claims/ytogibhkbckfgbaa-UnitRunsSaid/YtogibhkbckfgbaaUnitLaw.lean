/-
  UnitSteps holds: unit's Next and Range return what the reference returns, whatever the input.
-/
import Derived.Test.YtogibhkbckfgbaaUnit2
namespace Go.Proofs.Ytogibhkbckfgbaa
open Go.RowKit Go.ChangeShapes Go.WideShapes

def waitR : Rul := ⟨⟨#[65]⟩, 10, 50, 5, 5, 2, 2, 7⟩
def gamU4 : Gam := fun f => match f with
  | 29 => some fun args => match args with
    | [] => (.t, rV waitR)
    | _ => (.p False, .top)
  | 28 => some (sRUi (fun r _ _ _ _ => r.nm.size ≤ maxLen) xV)
  | 31 => some (sRU (fun r _ _ _ => r.nm.size ≤ maxLen) fun r on si po => .tup [intV (gL r on si po), intV (gM r on si po), intV (gE r on si po)])
  | 32 => some (sR (fun r => r.nm.size ≤ maxLen) fun r => intV (rulE r))
  | 33 => some (sR (fun r => r.nm.size ≤ maxLen) fun r => intV (rulE r))
  | 34 => some (sRU (fun r _ _ _ => r.nm.size ≤ maxLen) fun r on si po => intV (staE r on si po))
  | 30 => some (sRU (fun r _ _ _ => r.nm.size ≤ maxLen) fun r on si po => intV (staE r on si po))
  | 35 => some (sRUi (fun r on si po _ => staE r on si po = 0) nV)
  | _ => none

theorem uwait : Fn1 Try.prog 29 [] (rV waitR) := by
  refine fn_of_wpx (O := lex) tab_ok gamU3_ok mixed Try.func29 (by kernel_rfl) rfl rfl rfl (by simp [Try.ntmps29]) (by kernel_rfl) ?_
  conv => whnf
  repeat' (first
    | (refine NilG.mk fun bn hbn => ?_; conv => whnf)
    | (refine Both.mk ?_ ?_ <;> conv => whnf)
    | exact trivial
    | (refine Br.mk (fun hb => ?_) (fun hb => ?_) <;> (first | (exfalso; revert hb; decide) | ((try simp only [BL] at hb) <;> (try simp only [DL] at hb) <;> conv => whnf)))
    | (refine And.intro ?_ ?_; (focus (first | exact id | exact rfl | exact trivial | (intro hg; first | exact hg | exact rfl | (simp; done) | (simp at hg ⊢; assumption)) | omega | decide | exact is2_c _ _ _ | exact is1_c _ _ | exact isS_c _ _ | exact isB_c _ _ | exact Nat.le_refl _ | assumption | exact mulLe (by decide) (by omega) | exact mulLe2 (by decide) (by omega) (by omega) | (intros; simp only [BL] at *; omega) | (intros; (try simp only [BL] at *); (try simp only [DL] at *); omega) | (intros; simp only [BL] at *; rw [wr_id (by omega) (by omega)]; omega) | (intros; simp_all; done))); conv => whnf)
    | (refine Or.inr (And.intro rfl ?_); first | (refine congrArg intV ?_) | (refine congrArg boolV ?_) | (refine tupII ?_ ?_) | (refine tupIII ?_ ?_ ?_) | (refine tupU ?_ ?_ ?_ ?_ ?_)))
  exact .inr ⟨rfl, rfl⟩

theorem gamU4_ok : GOk Try.prog gamU4 := fun f g h => by
  unfold gamU4 at h
  split at h
  · injection h with h; subst h
    intro args hs _
    cases args with
    | nil => exact uwait
    | cons _ _ => exact hs.elim
  · injection h with h; subst h; exact sRUi_ok uNext
  · injection h with h; subst h; exact sRU_ok uRange
  · injection h with h; subst h; exact sR_ok uCheck
  · injection h with h; subst h; exact sR_ok uRule
  · injection h with h; subst h; exact sRU_ok uState
  · injection h with h; subst h; exact sRU_ok uStateError
  · injection h with h; subst h; exact sRUi_ok umoved
  · cases h

set_option maxHeartbeats 4000000 in
theorem unitLaw (r : Rul) (on : Bool) (si po x : Int) (hs : r.nm.size ≤ maxLen) : Fn1 Try.prog 6 [rV r, uV on si po, intV x] (boolV true) := by
  refine fn_of_wpx (O := lex) tab_ok gamU4_ok mixed Try.func6 (by kernel_rfl) rfl rfl rfl (by simp [Try.ntmps6]) (by kernel_rfl) ?_
  conv => whnf
  repeat' (first
    | (refine NilG.mk fun bn hbn => ?_; conv => whnf)
    | (refine Both.mk ?_ ?_ <;> conv => whnf)
    | exact trivial
    | (refine Br.mk (fun hb => ?_) (fun hb => ?_) <;> (first | (exfalso; revert hb; decide) | ((try simp only [BL] at hb) <;> (try simp only [DL] at hb) <;> conv => whnf)))
    | (refine And.intro ?_ ?_; (focus (first | exact id | exact rfl | exact trivial | (intro hg; first | exact hg | exact rfl | (simp; done) | (simp at hg ⊢; assumption)) | omega | decide | exact is2_c _ _ _ | exact is1_c _ _ | exact isS_c _ _ | exact isB_c _ _ | exact Nat.le_refl _ | assumption | exact mulLe (by decide) (by omega) | exact mulLe2 (by decide) (by omega) (by omega) | (intros; simp only [BL] at *; omega) | (intros; (try simp only [BL] at *); (try simp only [DL] at *); omega) | (intros; simp only [BL] at *; rw [wr_id (by omega) (by omega)]; omega) | (intros; simp_all; done) | first | exact hs | exact (show waitR.nm.size ≤ maxLen by decide))); conv => whnf)
    | (refine Or.inr (And.intro rfl ?_); first | (refine congrArg intV ?_) | (refine congrArg boolV ?_) | (refine tupII ?_ ?_) | (refine tupIII ?_ ?_ ?_) | (refine tupU ?_ ?_ ?_ ?_ ?_)))
  · rcases hb with h | h <;> exact absurd trivial h
  · have h0 : ¬ staE r on si po = 0 := hb
    have hE : gE r on si po = staE r on si po := if_pos h0
    have hL : gL r on si po = 0 := by unfold gL; rw [hE, if_pos h0]
    have hM : gM r on si po = 0 := by unfold gM; rw [hE, if_pos h0]
    clear hb
    obtain ⟨nm, le, mo, up, dn, mi, mf, st⟩ := r
    simp only [hE, hL, hM, if_neg h0]
    simp
  · rename_i h1
    have h0 : staE r on si po = 0 := h1
    clear h1
    obtain ⟨nm, le, mo, up, dn, mi, mf, st⟩ := r
    simp only [if_pos h0] at hb
    simp at hb
  · rename_i h1 h2
    have h0 : staE r on si po = 0 := h1
    have hE : gE r on si po = 12 := by unfold gE; rw [if_neg (fun h => h h0), if_pos hb]
    have hL : gL r on si po = 0 := by unfold gL; rw [hE, if_pos (by decide)]
    have hM : gM r on si po = 0 := by unfold gM; rw [hE, if_pos (by decide)]
    clear h1 h2 hb
    obtain ⟨nm, le, mo, up, dn, mi, mf, st⟩ := r
    simp only [hE, hL, hM]
    simp
  · rename_i h1 h2 h3
    have h0 : staE r on si po = 0 := h1
    subst hb
    have hlt : ¬ si < r.mf := by
      rcases h3 with h | h
      · cases h
      · exact h
    have hE : gE r false si po = 0 := by unfold gE; rw [if_neg (fun h => h h0), if_neg (fun h => hlt h.2)]
    have hL : gL r false si po = r.le := by unfold gL; rw [hE, if_neg (by simp), if_neg (by simp)]
    have hM : gM r false si po = r.mo := by unfold gM; rw [hE, if_neg (by simp), if_neg (by simp)]
    clear h1 h2 h3
    obtain ⟨nm, le, mo, up, dn, mi, mf, st⟩ := r
    simp only [hE, hL, hM]
    simp
  · rename_i h1 h2 h3
    have h0 : staE r on si po = 0 := h1
    subst hb
    obtain ⟨hk, hs0, hs1, hp1, hp0⟩ := staE_zero h0
    unfold okR at hk
    have hpo := hp1 rfl
    have e1 : IntKind.i64.wrap (po - r.dn) = po - r.dn := wr_id (by omega) (by omega)
    have e2 : IntKind.i64.wrap (po + r.up) = po + r.up := wr_id (by omega) (by omega)
    have hE : gE r true si po = 0 := by unfold gE; rw [if_neg (fun h => h h0), if_neg (by simp)]
    have hL : gL r true si po = max r.le (po - r.dn) := by unfold gL; rw [hE, if_neg (by simp), if_pos rfl]
    have hM : gM r true si po = min r.mo (po + r.up) := by unfold gM; rw [hE, if_neg (by simp), if_pos rfl]
    clear h1 h2 h3
    obtain ⟨nm, le, mo, up, dn, mi, mf, st⟩ := r
    simp only [hE, hL, hM, e1, e2]
    simp

def tyI : Ty := .i .i64
def tyRule : Ty := .st (.cons .s (.cons (.i .i64) (.cons (.i .i64) (.cons (.i .i64) (.cons (.i .i64) (.cons (.i .i64) (.cons (.i .i64) (.cons (.i .i64) .nil))))))))
def tyState : Ty := .st (.cons .b (.cons (.i .i64) (.cons (.i .i64) .nil)))

theorem unitSteps_own : ownKnob Try.prog.godebug = none := by kernel_rfl
theorem unitSteps_laid : laidOutB Try.prog = true := by kernel_rfl

set_option maxRecDepth 100000 in
theorem unitSteps_lifted (os : Os) (started : os.Started) (H : Type) (enc : TypeId × Value → H) :
    ReturnsInHanded {} Try.checked os 6 .any (Rows.unitStepsSpec.pre6 enc Try.prog Try.f6 Rows.unitStepsRow.domain false) (Rows.unitStepsSpec.post enc Try.prog Try.f6 false true false false) := by
  refine returnsInHanded_of_change (C := Try.checked) unitSteps_own started (by kernel_rfl) Try.func6
    (ChangeSpec.witness6 (enc := enc) (C := Try.checked) false ⟨#[], #[.agg #[.string ByteArray.empty, .int .i64 0, .int .i64 0, .int .i64 0, .int .i64 0, .int .i64 0, .int .i64 0, .int .i64 0], .agg #[.bool false, .int .i64 0, .int .i64 0], .int .i64 0], []⟩ 8 (by kernel_rfl) (by kernel_rfl) (by kernel_rfl) (by kernel_rfl)) ?_
  intro W base args ds gs before hval0 hW hcnd _
  have hval : ∀ (j : Nat) t v, Try.f6.params[j]? = some t → args[j]? = some v → Value.okWide Try.prog W .any base t v := hval0
  have hW' : DataW.Whole enc Try.prog Try.f6.params.toList Rows.unitStepsSpec.vars false W args.toList ds gs before := hW
  exact law_post (P := Try.prog) [tyRule, tyState, .i .i64] (by kernel_rfl) unitSteps_laid (by kernel_rfl) rfl (tb := 4) rfl (by kernel_rfl) (fun ds h => by
    match ds, h with
    | [d1, d2, d3], _ => rfl) (fun x hx => unitLaw ⟨x.1.1, x.1.2.1, x.1.2.2.1, x.1.2.2.2.1, x.1.2.2.2.2.1, x.1.2.2.2.2.2.1, x.1.2.2.2.2.2.2.1, x.1.2.2.2.2.2.2.2.1⟩ x.2.1.1 x.2.1.2.1 x.2.1.2.2.1 x.2.2.1 hx.1.1) W args ds gs before hval hW'

theorem unitSteps_holds : Rows.UnitStepsSaid :=
  OpenClaim.holds_of_wide 6 Try.f6 rfl rfl rfl rfl rfl rfl rfl ⟨rfl, rfl, rfl, rfl, rfl⟩ rfl rfl rfl rfl rfl (by kernel_rfl) Try.func6 (by kernel_rfl)
    (of_decide_eq_true (by kernel_rfl)) (by unfold Func.isWrapper; rw [if_neg (by decide +kernel)]; exact ⟨rfl, rfl⟩)
    (fun os started H enc _ => unitSteps_lifted os started H enc)

end Go.Proofs.Ytogibhkbckfgbaa
