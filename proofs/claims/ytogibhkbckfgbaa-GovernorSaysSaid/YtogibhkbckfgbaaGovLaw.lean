/-
  GovernorSays holds: governor's Check, Target and Next return what the reference returns, whatever the input.
-/
import Derived.Test.YtogibhkbckfgbaaGov
namespace Go.Proofs.Ytogibhkbckfgbaa
open Go.RowKit Go.ChangeShapes Go.WideShapes

theorem ok_bad (s l m d b r : Int) : okG s l m d b r = !badG s l m d b r := by
  rw [Bool.eq_iff_iff]
  simp only [okG, badG, inB, outB, Bool.and_eq_true, decide_eq_true_eq, Bool.not_eq_true', Bool.or_eq_false_iff, decide_eq_false_iff_not]
  omega
theorem err_chk (s l m d b r : Int) : (if okG s l m d b r then 0 else 4 : Int) = chkG s l m d b r := by
  rw [ok_bad]
  unfold chkG
  cases badG s l m d b r <;> rfl
theorem in_out (n a b : Int) : inB n a b = !outB n a b := by
  rw [Bool.eq_iff_iff]
  simp only [inB, outB, Bool.and_eq_true, decide_eq_true_eq, Bool.not_eq_true', Bool.or_eq_false_iff, decide_eq_false_iff_not]
  omega

def gamG4 : Gam := fun f => match f with
  | 13 => some (sGi (fun _ _ _ _ _ _ _ => True) fun s l m d b r f => .tup [intV (tgP s l m d b r f), intV (tgE s l m d b r f)])
  | 14 => some (sGii fun s l m d b r now f => .tup [intV (nxP s l m d b r now f), intV (nxE s l m d b r now f)])
  | 16 => some (sG (fun _ _ _ _ _ _ => True) fun s l m d b r => intV (chkG s l m d b r))
  | 15 => some (sG (fun _ _ _ _ _ _ => True) fun s l m d b r => intV (chkG s l m d b r))
  | 17 => some (s3 inB)
  | 18 => some (sGi preG fun s l m d b _ f => intV (tgt s l m d b f))
  | _ => none
theorem gamG4_ok : GOk Try.prog gamG4 := fun f g h => by
  unfold gamG4 at h
  split at h
  · injection h with h; subst h; exact sGi_ok fun s l m d b r f _ => gTarget s l m d b r f
  · injection h with h; subst h; exact sGii_ok gNext
  · injection h with h; subst h; exact sG_ok fun s l m d b r _ => gCheck s l m d b r
  · injection h with h; subst h; exact sG_ok fun s l m d b r _ => err_chk s l m d b r ▸ gErr s l m d b r
  · injection h with h; subst h; exact s3_ok gin
  · injection h with h; subst h; exact sGi_ok gRef
  · cases h

theorem gLaw (s l m d b r now f : Int) : Fn1 Try.prog 3 [govV s l m d b r, intV now, intV f] (boolV true) := by
  refine fn_of_wpx (O := lex) tab_ok gamG4_ok mixed Try.func3 (by kernel_rfl) rfl rfl rfl (by simp [Try.ntmps3]) (by kernel_rfl) ?_
  conv => whnf
  repeat' (first
    | (refine Br.mk (fun hb => ?_) (fun hb => ?_) <;> (first | (exfalso; revert hb; decide) | (conv => whnf)))
    | (refine And.intro ?_ ?_; (focus (first | exact id | exact rfl | exact trivial | (intro hg; first | exact hg | exact rfl | (simpa using hg)) | omega | decide)); conv => whnf)
    | (refine Or.inr (And.intro rfl ?_); first | (refine congrArg intV ?_) | (refine congrArg boolV ?_) | (refine tupII ?_ ?_)))
  · simp at hb
  · rename_i h1 h2 h3
    simp only [in_out, Bool.not_not, Bool.and_eq_true, beq_iff_eq] at h3
    simp [tgE, tgP, nxE, nxP, h3.1, h3.2]
  · have hb' : chkG s l m d b r ≠ 0 := by simpa using hb
    simp [tgE, tgP, nxE, nxP, hb']
  · rename_i h1 h2 h3
    have h0 : chkG s l m d b r = 0 := by simpa using hb
    have hf : outB f (-10000) 10000 = false := by simpa [in_out, h0] using h3
    have hp : preG s l m d b r f := ⟨chk_ok h0, hf⟩
    have hle := hp.le
    have eE : tgE s l m d b r f = 0 := by simp [tgE, h0, hf]
    have eP : tgP s l m d b r f = tgt s l m d b f := by simp [tgP, h0, hf]
    clear h1 h2 h3
    refine And.intro (hp) ?_
    conv => whnf
    repeat' (first
      | (refine Br.mk (fun hb => ?_) (fun hb => ?_) <;> (first | (exfalso; revert hb; decide) | (conv => whnf)))
      | (refine And.intro ?_ ?_; (focus (first | exact id | exact rfl | exact trivial | (intro hg; first | exact hg | exact rfl | (simpa using hg)) | omega | decide)); conv => whnf)
      | (refine Or.inr (And.intro rfl ?_); first | (refine congrArg intV ?_) | (refine congrArg boolV ?_) | (refine tupII ?_ ?_)))
    · simp [eE, eP] at hb
    · simp [in_out] at hb
      simp [nxE, nxP, eE, hb]
    all_goals
      rename_i k1 k2 k3
      simp only [in_out, Bool.not_not] at k2
      have hn : l ≤ now ∧ now ≤ m := by
        simp only [outB, Bool.or_eq_false_iff, decide_eq_false_iff_not] at k2
        omega
      have w1 : IntKind.i64.wrap (now + r) = now + r := wr_id (by omega) (by omega)
      have w2 : IntKind.i64.wrap (now - r) = now - r := wr_id (by omega) (by omega)
      have eN : nxE s l m d b r now f = 0 := by simp [nxE, eE, k2]
      have eQ : nxP s l m d b r now f = min (max (tgt s l m d b f) (now - r)) (now + r) := by simp [nxP, wr, eE, eP, k2, w1, w2]
      rw [eN, eQ]
      try rw [w1] at k3 ⊢
      try rw [w1] at k3
      try rw [w1] at hb
      try rw [w2] at hb ⊢
      try rw [w2] at hb
      simp at k3 hb ⊢
      omega

def tysG : List Ty := [.st (.cons (.i .i64) (.cons (.i .i64) (.cons (.i .i64) (.cons (.i .i64) (.cons (.i .i64) (.cons (.i .i64) .nil)))))), .i .i64, .i .i64]

theorem own : ownKnob Try.prog.godebug = none := by kernel_rfl
theorem laid : laidOutB Try.prog = true := by kernel_rfl

set_option maxRecDepth 100000 in
theorem governorSays_lifted (os : Os) (started : os.Started) (H : Type) (enc : TypeId × Value → H) :
    ReturnsInHanded {} Try.checked os 3 .any (Rows.governorSaysSpec.pre6 enc Try.prog Try.f3 Rows.governorSaysRow.domain false) (Rows.governorSaysSpec.post enc Try.prog Try.f3 false true false false) := by
  refine returnsInHanded_of_change (C := Try.checked) own started (by kernel_rfl) Try.func3
    (ChangeSpec.witness6 (enc := enc) (C := Try.checked) false ⟨#[], #[.agg #[.int .i64 0, .int .i64 0, .int .i64 0, .int .i64 0, .int .i64 0, .int .i64 0], .int .i64 0, .int .i64 0], []⟩ 8 (by kernel_rfl) (by kernel_rfl) (by kernel_rfl) (by kernel_rfl)) ?_
  intro W base args ds gs before hval0 hW hcnd _
  have hval : ∀ (j : Nat) t v, Try.f3.params[j]? = some t → args[j]? = some v → Value.okWide Try.prog W .any base t v := hval0
  have hW' : DataW.Whole enc Try.prog Try.f3.params.toList Rows.governorSaysSpec.vars false W args.toList ds gs before := hW
  exact law_post (P := Try.prog) tysG (by kernel_rfl) laid (by kernel_rfl) rfl (tb := 4) rfl (by kernel_rfl) (fun ds h => by
    match ds, h with
    | [d1, d2, d3], _ => rfl) (fun x _ => gLaw _ _ _ _ _ _ _ _) W args ds gs before hval hW'

theorem governorSays_holds : Rows.GovernorSaysSaid :=
  OpenClaim.holds_of_wide 3 Try.f3 rfl rfl rfl rfl rfl rfl rfl ⟨rfl, rfl, rfl, rfl, rfl⟩ rfl rfl rfl rfl rfl (by kernel_rfl) Try.func3 (by kernel_rfl)
    (of_decide_eq_true (by kernel_rfl)) (by unfold Func.isWrapper; rw [if_neg (by decide +kernel)]; exact ⟨rfl, rfl⟩)
    (fun os started H enc _ => governorSays_lifted os started H enc)

end Go.Proofs.Ytogibhkbckfgbaa
