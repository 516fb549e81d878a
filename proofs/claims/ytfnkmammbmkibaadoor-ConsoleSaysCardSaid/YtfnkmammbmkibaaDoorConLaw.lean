/-
  ConsoleSays holds: Check accepts what the table says, whatever the command.
-/
import Derived.Test.YtfnkmammbmkibaaDoorCon
import Derived.Test.YtfnkmammbmkibaaDoorCards
import Derived.Test.YtfnkmammbmkibaaDoorTie
import Derived.Lay
import Derived.SevenTiedAt
namespace Go.Proofs.YtfnkmammbmkibaaDoor
open Go.RowKit Go.ChangeShapes Go.WideShapes

def gamCl : Gam := fun f => match f with
  | 7 => some (s3 inB)
  | 6 => some (s1S (fun a => a.size ≤ maxLen) nameB)
  | _ => none
theorem gamCl_ok : GOk Tryd.prog gamCl := fun f g h => by
  unfold gamCl at h
  split at h
  · injection h with h; subst h; exact s3_ok in4
  · injection h with h; subst h; exact s1S_ok named4
  · cases h
set_option maxRecDepth 100000 in
set_option maxHeartbeats 8000000 in
theorem cnLaw (v nm : ByteArray) (n : Int) (hnm : nm.size ≤ maxLen) : Fn1 Tryd.prog 3 [.agg [strV v, strV nm, intV n]] (boolV true) := by
  refine fn_of_wpx (O := lex) tab_ok gamCl_ok mixed Tryd.func3 (by kernel_rfl) rfl rfl rfl (by simp [Tryd.ntmps3]) (by kernel_rfl) ?_
  conv => whnf
  repeat' (first
    | (refine NilG.mk fun bn hbn hbx => ?_; conv => whnf)
    | (refine Both.mk ?_ ?_ <;> conv => whnf)
    | exact trivial
    | (refine Br.mk (fun hb => ?_) (fun hb => ?_) <;> (first | (exfalso; revert hb; decide) | ((try simp only [BL] at hb) <;> (try simp only [DL] at hb) <;> conv => whnf)))
    | (refine And.intro ?_ ?_; (focus (first | exact id | exact rfl | exact trivial | (intro hg; first | exact hg | exact rfl | (simp; done) | (simp at hg ⊢; assumption)) | omega | decide | exact is2_c _ _ _ | exact is1_c _ _ | exact isS_c _ _ | exact isB_c _ _ | exact Nat.le_refl _ | assumption | exact mulLe (by decide) (by omega) | exact mulLe2 (by decide) (by omega) (by omega) | (intros; simp only [BL] at *; omega) | (intros; (try simp only [BL] at *); (try simp only [DL] at *); omega) | (intros; simp only [BL] at *; rw [wr_id (by omega) (by omega)]; omega) | (intro h1 h2; exact Bool.and_eq_true_iff.2 ⟨h1, h2⟩) | (intros; simp_all; done))); conv => whnf)
    | (refine Or.inr (And.intro rfl ?_); first | (refine congrArg intV ?_) | (refine congrArg boolV ?_) | (refine tupII ?_ ?_) | (refine tupIII ?_ ?_ ?_) | (refine tupU ?_ ?_ ?_ ?_ ?_) | exact rfl))
  refine CallG.mk (Fn.mono cnPrint ?_)
  rintro obs r ⟨rfl, rfl⟩
  conv => whnf
  repeat' (first
    | (refine NilG.mk fun bn hbn hbx => ?_; conv => whnf)
    | (refine Both.mk ?_ ?_ <;> conv => whnf)
    | exact trivial
    | (refine Br.mk (fun hb => ?_) (fun hb => ?_) <;> (first | (exfalso; revert hb; decide) | ((try simp only [BL] at hb) <;> (try simp only [DL] at hb) <;> conv => whnf)))
    | (refine And.intro ?_ ?_; (focus (first | exact id | exact rfl | exact trivial | (intro hg; first | exact hg | exact rfl | (simp; done) | (simp at hg ⊢; assumption)) | omega | decide | exact is2_c _ _ _ | exact is1_c _ _ | exact isS_c _ _ | exact isB_c _ _ | exact Nat.le_refl _ | assumption | exact mulLe (by decide) (by omega) | exact mulLe2 (by decide) (by omega) (by omega) | (intros; simp only [BL] at *; omega) | (intros; (try simp only [BL] at *); (try simp only [DL] at *); omega) | (intros; simp only [BL] at *; rw [wr_id (by omega) (by omega)]; omega) | (intro h1 h2; exact Bool.and_eq_true_iff.2 ⟨h1, h2⟩) | first | exact hnm | exact fun _ => hnm | (intros; simp_all; done))); conv => whnf)
    | (refine Or.inr (And.intro rfl ?_); first | (refine congrArg intV ?_) | (refine congrArg boolV ?_) | (refine tupII ?_ ?_) | (refine tupIII ?_ ?_ ?_) | (refine tupU ?_ ?_ ?_ ?_ ?_) | exact rfl))
  all_goals (try (exfalso; simp_all; done))
  · rcases hb with hb | hb
    · exact absurd trivial hb
    · exact absurd (rfl : bAll = _) (b_ne.1 hb)
  all_goals first | refine CallG.mk (Fn.mono (cnCheckI 0 (by decide) v nm n hnm (b_eq.1 (by assumption))) ?_) | refine CallG.mk (Fn.mono (cnCheckI 1 (by decide) v nm n hnm (b_eq.1 (by assumption))) ?_) | refine CallG.mk (Fn.mono (cnCheckI 2 (by decide) v nm n hnm (b_eq.1 (by assumption))) ?_) | refine CallG.mk (Fn.mono (cnCheckI 3 (by decide) v nm n hnm (b_eq.1 (by assumption))) ?_) | refine CallG.mk (Fn.mono (cnCheckI 4 (by decide) v nm n hnm (b_eq.1 (by assumption))) ?_) | refine CallG.mk (Fn.mono (cnCheckI 5 (by decide) v nm n hnm (b_eq.1 (by assumption))) ?_) | refine CallG.mk (Fn.mono (cnCheckI 6 (by decide) v nm n hnm (b_eq.1 (by assumption))) ?_) | refine CallG.mk (Fn.mono (cnCheckI 7 (by decide) v nm n hnm (b_eq.1 (by assumption))) ?_) | refine CallG.mk (Fn.mono (cnCheckN v nm n hnm ?_) ?_)
  all_goals first
    | (rintro obs r ⟨rfl, rfl⟩; ((conv => whnf); repeat' (first | (refine NilG.mk fun bn hbn hbx => ?_; conv => whnf) | (refine Both.mk ?_ ?_ <;> conv => whnf) | exact trivial | (refine Br.mk (fun hb => ?_) (fun hb => ?_) <;> (first | (exfalso; revert hb; decide) | ((try simp only [BL] at hb) <;> (try simp only [DL] at hb) <;> conv => whnf))) | (refine And.intro ?_ ?_; (focus (first | exact id | exact rfl | exact trivial | (intro hg; first | exact hg | exact rfl | (simp; done) | (simp at hg ⊢; assumption)) | omega | decide | exact is2_c _ _ _ | exact is1_c _ _ | exact isS_c _ _ | exact isB_c _ _ | exact Nat.le_refl _ | assumption | exact mulLe (by decide) (by omega) | exact mulLe2 (by decide) (by omega) (by omega) | (intros; simp only [BL] at *; omega) | (intros; (try simp only [BL] at *); (try simp only [DL] at *); omega) | (intros; simp only [BL] at *; rw [wr_id (by omega) (by omega)]; omega) | (intro h1 h2; exact Bool.and_eq_true_iff.2 ⟨h1, h2⟩) | (intros; simp_all; done))); conv => whnf) | (refine Or.inr (And.intro rfl ?_); first | (refine congrArg intV ?_) | (refine congrArg boolV ?_) | (refine tupII ?_ ?_) | (refine tupIII ?_ ?_ ?_) | (refine tupU ?_ ?_ ?_ ?_ ?_) | exact rfl))))
    | skip
  all_goals first
    | rfl
    | (show (_ == _) = true
       rw [beq_iff_eq]
       simp only [b_eq, b_ne] at *
       have hE : ByteArray.empty = ⟨#[]⟩ := rfl
       unfold ckE
       (repeat' split) <;> simp_all [nS, mS, loS, hiS] <;> omega)
    | skip
  rename_i b0 b1 b2 b3 b4 b5 b6
  have hk : obs = 0 ∨ obs = 1 ∨ obs = 2 ∨ obs = 3 ∨ obs = 4 ∨ obs = 5 ∨ obs = 6 ∨ obs = 7 := by omega
  rcases hk with rfl | rfl | rfl | rfl | rfl | rfl | rfl | rfl
  · exact b_ne.1 b0 rfl
  · exact b_ne.1 b1 rfl
  · exact b_ne.1 b2 rfl
  · exact b_ne.1 b3 rfl
  · exact b_ne.1 b4 rfl
  · exact b_ne.1 b5 rfl
  · exact b_ne.1 b6 rfl
  · exact b_ne.1 hb rfl
theorem consoleSays_own : ownKnob Tryd.prog.godebug = none := by kernel_rfl
theorem consoleSays_laid : laidOutB Tryd.prog = true := by kernel_rfl

set_option maxRecDepth 100000 in
theorem consoleSays_lifted (os : Os) (started : os.Started) (H : Type) (enc : TypeId × Value → H) :
    ReturnsInHanded {} Tryd.checked os 3 .any (fun w args => (Rows.consoleSaysSpec.pre enc Tryd.prog Tryd.f3 [] false w args ∧ laidMetH Tryd.prog Rows.consoleSaysRow.laid w) ∧ sizedMet enc Tryd.prog Tryd.f3 (OpenSpec.ofChange Rows.consoleSaysSpec) false w args)
      (Rows.consoleSaysSpec.post enc Tryd.prog Tryd.f3 false true false false) := by
  refine returnsInHanded_of_change_and (C := Tryd.checked) (X := fun w _ => laidMetH Tryd.prog Rows.consoleSaysRow.laid w) (fun _ _ _ hh h => h.of_heap hh) consoleSays_own started (by kernel_rfl) Tryd.func3
    (ChangeSpec.witness_shaped (enc := enc) (C := Tryd.checked) (os := os) (X := fun w _ => laidMetH Tryd.prog Rows.consoleSaysRow.laid w) false (World.laidAll Tryd.prog os Rows.consoleSaysRow.laid) #[.agg #[.string ⟨#[]⟩, .string ⟨#[]⟩, .int .i64 0]] 8 (World.laidAll_os _ _ _)
      (World.shaped_of_ZipB (by kernel_rfl) (by kernel_rfl)) (by kernel_rfl) (by kernel_rfl) (by kernel_rfl)
      (by rw [MakeChecks.laidMetH_plain _ _ _ (by kernel_rfl)]; exact laidMet_laidAll _ (by kernel_rfl) (by kernel_rfl))) ?_
  intro W base args ds gs before hval0 hW _ _ _ _
  have hval : ∀ (j : Nat) t v, Tryd.f3.params[j]? = some t → args[j]? = some v → Value.okWide Tryd.prog W .any base t v := hval0
  have hW' : DataW.Whole enc Tryd.prog Tryd.f3.params.toList Rows.consoleSaysSpec.vars false W args.toList ds gs before := hW
  exact law_post (P := Tryd.prog) [.st (.cons .s (.cons .s (.cons (.i .i64) .nil)))] (by kernel_rfl) consoleSays_laid (by kernel_rfl) rfl (tb := 4) rfl (by kernel_rfl) (fun ds h => by
    match ds, h with
    | [d1], _ => rfl) (fun x hx => cnLaw x.1.1 x.1.2.1 x.1.2.2.1 hx.1.2.1) W args ds gs before hval hW'

theorem consoleSays_holds : Rows.ConsoleSaysSaid :=
  OpenClaim.holds_of_wide 3 Tryd.f3 rfl rfl rfl rfl rfl rfl rfl ⟨rfl, rfl, rfl, rfl, rfl⟩ rfl rfl rfl rfl rfl (by kernel_rfl) Tryd.func3 (by kernel_rfl)
    (of_decide_eq_true (by kernel_rfl)) (by unfold Func.isWrapper; rw [if_neg (by decide +kernel)]; exact ⟨rfl, rfl⟩)
    (fun os started H enc _ => consoleSays_lifted os started H enc)
theorem consoleSays_card : Rows.ConsoleSaysCardSaid :=
  Claim7.holds_tied_plain_at .later [] [.data, .data, .data] true (true, "3551614de5e5a7d8cdce65f6760abc2252ecaf185ab5e2b33eb5f05a46218035") false consoleSays_holds (fun _ h => by cases h) (by kernel_rfl) (fun _ h => by cases h) consoleSays_row_tie rfl ⟨rfl, rfl⟩ (by kernel_rfl) rfl
    (fun f fn hf hfn => by
      obtain rfl : f = 3 := Option.some.inj ((show Tryd.prog.funcNamed "gridhall/gridhalllaw4.ConsoleSays" = some 3 by kernel_rfl).symm.trans hf) |>.symm
      obtain rfl : fn = Tryd.f3 := (Option.some.inj (Tryd.func3.symm.trans hfn)).symm
      exact ⟨by kernel_rfl, fun j t ht => by
        have hm := Array.mem_of_getElem? ht
        have hall : (Tryd.f3.params.toList.all fun u => !Tryd.prog.wantsStandIn u) = true := by kernel_rfl
        have h9 : (!Tryd.prog.wantsStandIn t) = true := List.all_eq_true.1 hall t (by simpa using hm)
        exact (show Tryd.prog.wantsStandIn t = false by simpa using h9)⟩)
    (by kernel_rfl)
end Go.Proofs.YtfnkmammbmkibaaDoor
