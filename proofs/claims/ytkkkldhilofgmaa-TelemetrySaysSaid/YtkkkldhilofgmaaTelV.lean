/-
  telemetry: Value, Skipped, New.
-/
import Derived.Test.YtkkkldhilofgmaaTelU
namespace Go.Proofs.Ytkkkldhilofgmaa
open Go.RowKit

def tlGood (t : Tl) : Prop := t.n ≤ 24 ∧ ∀ k, k < t.n → 1 ≤ t.nu k ∧ t.nu k ≤ 1000000 ∧ 0 ≤ t.ti k ∧ t.ti k ≤ 200000 ∧ 0 ≤ t.mn k ∧ t.mn k ≤ 1000
/-- value, quality, error -/
def vlE (age : Int) (t : Tl) (s : ByteArray) (now : Int) : Int × Int × Int := if now < 0 ∨ 200000 < now then (0, 0, 12) else match ffind (sameN t.nm s) t.n with
  | none => (0, 2, 0)
  | some i => if now < t.ti i then (0, 0, 12) else if now - t.ti i ≤ age then (t.va i, 0, 0) else (t.va i, 1, 0)
theorem vl1 {age : Int} {t : Tl} {s : ByteArray} {now : Int} (h : now < 0 ∨ 200000 < now) : vlE age t s now = (0, 0, 12) := if_pos h
theorem vl2 {age : Int} {t : Tl} {s : ByteArray} {now : Int} (hf : ffind (sameN t.nm s) t.n = none) (h : ¬ (now < 0 ∨ 200000 < now)) : vlE age t s now = (0, 2, 0) := by
  unfold vlE
  rw [if_neg h, hf]
section
variable {age : Int} {t : Tl} {s : ByteArray} {now : Int} {i : Nat} (hf : ffind (sameN t.nm s) t.n = some i)
include hf
theorem vl3 (h : ¬ (now < 0 ∨ 200000 < now)) (h2 : now < t.ti i) : vlE age t s now = (0, 0, 12) := by
  unfold vlE
  rw [if_neg h, hf]
  exact if_pos h2
theorem vl4 (h : ¬ (now < 0 ∨ 200000 < now)) (h2 : ¬ now < t.ti i) (h3 : now - t.ti i ≤ age) : vlE age t s now = (t.va i, 0, 0) := by
  unfold vlE
  rw [if_neg h, hf]
  exact (if_neg h2).trans (if_pos h3)
theorem vl5 (h : ¬ (now < 0 ∨ 200000 < now)) (h2 : ¬ now < t.ti i) (h3 : ¬ now - t.ti i ≤ age) : vlE age t s now = (t.va i, 1, 0) := by
  unfold vlE
  rw [if_neg h, hf]
  exact (if_neg h2).trans (if_neg h3)
end
def skE (t : Tl) (s : ByteArray) : Int × Int := match ffind (sameN t.nm s) t.n with
  | none => (0, 8)
  | some i => (t.nu i - t.mn i, 0)
theorem tlValue (age : Int) (t : Tl) (s : ByteArray) (now : Int) (ht : tlGood t) : Fn1 Try.prog 51 [.xp 2 (ptF age t), strV s, intV now] (.tup [intV (vlE age t s now).1, intV (vlE age t s now).2.1, intV (vlE age t s now).2.2]) := by
  refine fn_of_wpx (O := lex) tab_ok gamT2_ok mixed Try.func51 (by kernel_rfl) rfl rfl rfl (by simp [Try.ntmps51]) (by kernel_rfl) ?_
  obtain ⟨h24, hk⟩ := ht
  obtain ⟨fi, hfi⟩ : ∃ fi, ffind (sameN t.nm s) t.n = fi := ⟨_, rfl⟩
  have hfu : fidx (sameN (tlOf t.n (cP t)).nm s) (tlOf t.n (cP t)).n < t.n := fidx_up _ _
  rcases fi with _ | i
  · have hx : fidx (sameN (tlOf t.n (cP t)).nm s) (tlOf t.n (cP t)).n = -1 := by
      show fidx (sameN t.nm s) t.n = -1
      unfold fidx
      rw [hfi]
    conv => whnf
    repeat' (first
      | (refine NilG.mk fun bn hbn hbx => ?_; conv => whnf)
      | (refine Both.mk ?_ ?_ <;> conv => whnf)
      | exact trivial
      | (refine Br.mk (fun hb => ?_) (fun hb => ?_) <;> (first | (exfalso; revert hb; decide) | ((try simp only [BL] at hb) <;> (try simp only [DL] at hb) <;> conv => whnf)))
      | (refine And.intro ?_ ?_; (focus (first | exact id | exact rfl | exact trivial | (intro hg; first | exact hg | exact rfl | (simp; done) | (simp at hg ⊢; assumption)) | omega | decide | exact is2_c _ _ _ | exact is1_c _ _ | exact isS_c _ _ | exact isB_c _ _ | exact Nat.le_refl _ | assumption | exact mulLe (by decide) (by omega) | exact mulLe2 (by decide) (by omega) (by omega) | (intros; simp only [BL] at *; omega) | (intros; (try simp only [BL] at *); (try simp only [DL] at *); omega) | (intros; simp only [BL] at *; rw [wr_id (by omega) (by omega)]; omega) | (intro h1 h2; exact Bool.and_eq_true_iff.2 ⟨h1, h2⟩) | first | exact ⟨by omega, fun _ _ _ _ => rfl⟩ | (intros; simp_all; done))); conv => whnf)
      | (refine Or.inr (And.intro rfl ?_); first | (refine congrArg intV ?_) | (refine congrArg boolV ?_) | (refine tupII ?_ ?_) | (refine tupIII ?_ ?_ ?_) | (refine tupU ?_ ?_ ?_ ?_ ?_) | exact rfl))
    all_goals first | (exfalso; omega) | skip
    all_goals
      first | (rw [vl1 (by omega)]; done) | (rw [vl2 hfi (by omega)]; done)
  · have hx : fidx (sameN (tlOf t.n (cP t)).nm s) (tlOf t.n (cP t)).n = i := by
      show fidx (sameN t.nm s) t.n = i
      unfold fidx
      rw [hfi]
    conv => whnf
    repeat' (first
      | (refine NilG.mk fun bn hbn hbx => ?_; conv => whnf)
      | (refine Both.mk ?_ ?_ <;> conv => whnf)
      | exact trivial
      | (refine Br.mk (fun hb => ?_) (fun hb => ?_) <;> (first | (exfalso; revert hb; decide) | ((try simp only [BL] at hb) <;> (try simp only [DL] at hb) <;> conv => whnf)))
      | (refine And.intro ?_ ?_; (focus (first | exact id | exact rfl | exact trivial | (intro hg; first | exact hg | exact rfl | (simp; done) | (simp at hg ⊢; assumption)) | omega | decide | exact is2_c _ _ _ | exact is1_c _ _ | exact isS_c _ _ | exact isB_c _ _ | exact Nat.le_refl _ | assumption | exact mulLe (by decide) (by omega) | exact mulLe2 (by decide) (by omega) (by omega) | (intros; simp only [BL] at *; omega) | (intros; (try simp only [BL] at *); (try simp only [DL] at *); omega) | (intros; simp only [BL] at *; rw [wr_id (by omega) (by omega)]; omega) | (intro h1 h2; exact Bool.and_eq_true_iff.2 ⟨h1, h2⟩) | first | exact ⟨by omega, fun _ _ _ _ => rfl⟩ | (intros; simp_all; done))); conv => whnf)
      | (refine Or.inr (And.intro rfl ?_); first | (refine congrArg intV ?_) | (refine congrArg boolV ?_) | (refine tupII ?_ ?_) | (refine tupIII ?_ ?_ ?_) | (refine tupU ?_ ?_ ?_ ?_ ?_) | exact rfl))
    all_goals
      have hi : i < t.n := by omega
      have hki := hk i hi
      have htn : (fidx (sameN (tlOf t.n (cP t)).nm s) (tlOf t.n (cP t)).n).toNat = i := by rw [hx]; rfl
      have hw : 0 ≤ now → now ≤ 200000 → IntKind.i64.wrap (now - t.ti i) = now - t.ti i := fun _ _ => wr_id (by omega) (by omega)
      try simp only [htn] at *
      try rw [hw (by omega) (by omega)] at hb
      first | (rw [vl1 (by omega)]; done) | (rw [vl3 hfi (by omega) (by omega)]; done) | (rw [vl4 hfi (by omega) (by omega) (by omega)]; done) | (rw [vl5 hfi (by omega) (by omega) (by omega)]; done) | (exfalso; omega)
theorem tlSkip (age : Int) (t : Tl) (s : ByteArray) (ht : tlGood t) : Fn1 Try.prog 56 [.xp 2 (ptF age t), strV s] (.tup [intV (skE t s).1, intV (skE t s).2]) := by
  refine fn_of_wpx (O := lex) tab_ok gamT2_ok mixed Try.func56 (by kernel_rfl) rfl rfl rfl (by simp [Try.ntmps56]) (by kernel_rfl) ?_
  obtain ⟨h24, hk⟩ := ht
  obtain ⟨fi, hfi⟩ : ∃ fi, ffind (sameN t.nm s) t.n = fi := ⟨_, rfl⟩
  have hfu : fidx (sameN (tlOf t.n (cP t)).nm s) (tlOf t.n (cP t)).n < t.n := fidx_up _ _
  rcases fi with _ | i
  · have hx : fidx (sameN (tlOf t.n (cP t)).nm s) (tlOf t.n (cP t)).n = -1 := by
      show fidx (sameN t.nm s) t.n = -1
      unfold fidx
      rw [hfi]
    conv => whnf
    repeat' (first
      | (refine NilG.mk fun bn hbn hbx => ?_; conv => whnf)
      | (refine Both.mk ?_ ?_ <;> conv => whnf)
      | exact trivial
      | (refine Br.mk (fun hb => ?_) (fun hb => ?_) <;> (first | (exfalso; revert hb; decide) | ((try simp only [BL] at hb) <;> (try simp only [DL] at hb) <;> conv => whnf)))
      | (refine And.intro ?_ ?_; (focus (first | exact id | exact rfl | exact trivial | (intro hg; first | exact hg | exact rfl | (simp; done) | (simp at hg ⊢; assumption)) | omega | decide | exact is2_c _ _ _ | exact is1_c _ _ | exact isS_c _ _ | exact isB_c _ _ | exact Nat.le_refl _ | assumption | exact mulLe (by decide) (by omega) | exact mulLe2 (by decide) (by omega) (by omega) | (intros; simp only [BL] at *; omega) | (intros; (try simp only [BL] at *); (try simp only [DL] at *); omega) | (intros; simp only [BL] at *; rw [wr_id (by omega) (by omega)]; omega) | (intro h1 h2; exact Bool.and_eq_true_iff.2 ⟨h1, h2⟩) | first | exact ⟨by omega, fun _ _ _ _ => rfl⟩ | (intros; simp_all; done))); conv => whnf)
      | (refine Or.inr (And.intro rfl ?_); first | (refine congrArg intV ?_) | (refine congrArg boolV ?_) | (refine tupII ?_ ?_) | (refine tupIII ?_ ?_ ?_) | (refine tupU ?_ ?_ ?_ ?_ ?_) | exact rfl))
    all_goals first | (exfalso; omega) | (unfold skE; rw [hfi])
  · have hx : fidx (sameN (tlOf t.n (cP t)).nm s) (tlOf t.n (cP t)).n = i := by
      show fidx (sameN t.nm s) t.n = i
      unfold fidx
      rw [hfi]
    conv => whnf
    repeat' (first
      | (refine NilG.mk fun bn hbn hbx => ?_; conv => whnf)
      | (refine Both.mk ?_ ?_ <;> conv => whnf)
      | exact trivial
      | (refine Br.mk (fun hb => ?_) (fun hb => ?_) <;> (first | (exfalso; revert hb; decide) | ((try simp only [BL] at hb) <;> (try simp only [DL] at hb) <;> conv => whnf)))
      | (refine And.intro ?_ ?_; (focus (first | exact id | exact rfl | exact trivial | (intro hg; first | exact hg | exact rfl | (simp; done) | (simp at hg ⊢; assumption)) | omega | decide | exact is2_c _ _ _ | exact is1_c _ _ | exact isS_c _ _ | exact isB_c _ _ | exact Nat.le_refl _ | assumption | exact mulLe (by decide) (by omega) | exact mulLe2 (by decide) (by omega) (by omega) | (intros; simp only [BL] at *; omega) | (intros; (try simp only [BL] at *); (try simp only [DL] at *); omega) | (intros; simp only [BL] at *; rw [wr_id (by omega) (by omega)]; omega) | (intro h1 h2; exact Bool.and_eq_true_iff.2 ⟨h1, h2⟩) | first | exact ⟨by omega, fun _ _ _ _ => rfl⟩ | (intros; simp_all; done))); conv => whnf)
      | (refine Or.inr (And.intro rfl ?_); first | (refine congrArg intV ?_) | (refine congrArg boolV ?_) | (refine tupII ?_ ?_) | (refine tupIII ?_ ?_ ?_) | (refine tupU ?_ ?_ ?_ ?_ ?_) | exact rfl))
    all_goals
      have hi : i < t.n := by omega
      have hki := hk i hi
      have htn : (fidx (sameN (tlOf t.n (cP t)).nm s) (tlOf t.n (cP t)).n).toNat = i := by rw [hx]; rfl
      have hw : IntKind.i64.wrap (t.nu i - t.mn i) = t.nu i - t.mn i := wr_id (by omega) (by omega)
      try simp only [htn] at *
      first | (exfalso; omega) | (unfold skE; rw [hfi]; done) | (unfold skE; rw [hfi]; exact hw)
theorem tlNew0 (age : Int) : Fn Try.prog 49 [intV age] (fun obs r => (age < 0 ∨ 200000 < age) ∧ obs = [] ∧ r = .tup [.c (.v (.pointer none)), intV 4] ∨ ¬ (age < 0 ∨ 200000 < age) ∧ obs = [.box [intV age, .c (.v (.slice none 0 0))]] ∧ r = .tup [.lp 0 0, intV 0]) := by
  refine fn_of_wpx (O := lex) tab_ok (Γ := fun _ => none) (fun _ _ h => by cases h) mixed Try.func49 (by kernel_rfl) rfl rfl rfl (by simp [Try.ntmps49]) (by kernel_rfl) ?_
  conv => whnf
  repeat' (first
    | (refine NilG.mk fun bn hbn hbx => ?_; conv => whnf)
    | (refine Both.mk ?_ ?_ <;> conv => whnf)
    | exact trivial
    | (refine Br.mk (fun hb => ?_) (fun hb => ?_) <;> (first | (exfalso; revert hb; decide) | ((try simp only [BL] at hb) <;> (try simp only [DL] at hb) <;> conv => whnf)))
    | (refine And.intro ?_ ?_; (focus (first | exact id | exact rfl | exact trivial | (intro hg; first | exact hg | exact rfl | (simp; done) | (simp at hg ⊢; assumption)) | omega | decide | exact is2_c _ _ _ | exact is1_c _ _ | exact isS_c _ _ | exact isB_c _ _ | exact Nat.le_refl _ | assumption | exact mulLe (by decide) (by omega) | exact mulLe2 (by decide) (by omega) (by omega) | (intros; simp only [BL] at *; omega) | (intros; (try simp only [BL] at *); (try simp only [DL] at *); omega) | (intros; simp only [BL] at *; rw [wr_id (by omega) (by omega)]; omega) | (intro h1 h2; exact Bool.and_eq_true_iff.2 ⟨h1, h2⟩) | (intros; simp_all; done))); conv => whnf)
    | (refine Or.inr (And.intro rfl ?_); first | (refine congrArg intV ?_) | (refine congrArg boolV ?_) | (refine tupII ?_ ?_) | (refine tupIII ?_ ?_ ?_) | (refine tupU ?_ ?_ ?_ ?_ ?_) | exact rfl))
  · exact .inr (.inl ⟨by omega, rfl, rfl⟩)
  · refine .inl ⟨[0], [.box [intV age, .c (.v (.slice none 0 0))]], .tup [.lp 0 0, intV 0], rfl, ?_, rfl, rfl, .inr ⟨by omega, rfl, rfl⟩⟩
    repeat' (first | (refine And.intro ?_ ?_) | exact trivial | exact rfl)
end Go.Proofs.Ytkkkldhilofgmaa
