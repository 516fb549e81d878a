/-
  The package interlock: the reference's error of conditions; lists of rules and of states.
-/
import Derived.Test.YtemfikdogdadnaaIlk
namespace Go.Proofs.Ytemfikdogdadnaa
open Go.RowKit

set_option maxHeartbeats 4000000 in
theorem condE (c : Cnd) (hc : c.ok) : Fn1 Try.prog 59 [cV c] (intV (cndE c)) := by
  refine fn_of_wpx (O := lex) tab_ok gamI2_ok mixed Try.func59 (by kernel_rfl) rfl rfl rfl (by simp [Try.ntmps59]) (by kernel_rfl) ?_
  obtain ⟨hn, hs⟩ := hc
  have hn' : c.n ≤ 9223372036854775807 := hn
  conv => whnf
  repeat' (first
    | (refine NilG.mk fun bn hbn hbx => ?_; conv => whnf)
    | (refine Both.mk ?_ ?_ <;> conv => whnf)
    | ((first | (refine MkG.box 1 rfl rfl rfl (by decide) ?_) | (refine MkG.box 2 rfl rfl rfl (by decide) ?_) | (refine MkG.box 3 rfl rfl rfl (by decide) ?_) | (refine MkG.row ?_)); conv => whnf)
    | exact trivial
    | (refine Br.mk (fun hb => ?_) (fun hb => ?_) <;> (first | (exfalso; revert hb; decide) | ((try simp only [BL] at hb) <;> (try simp only [DL] at hb) <;> conv => whnf)))
    | (refine And.intro ?_ ?_; (focus (first | exact id | exact rfl | exact trivial | (intro hg; first | exact hg | exact rfl | (simp; done) | (simp at hg ⊢; assumption)) | omega | decide | exact is2_c _ _ _ | exact is1_c _ _ | exact isS_c _ _ | exact isB_c _ _ | exact Nat.le_refl _ | assumption | exact mulLe (by decide) (by omega) | exact mulLe2 (by decide) (by omega) (by omega) | (intros; simp only [BL] at *; omega) | (intros; (try simp only [BL] at *); (try simp only [DL] at *); omega) | (intros; simp only [BL] at *; rw [wr_id (by omega) (by omega)]; omega) | (intro h1 h2; exact Bool.and_eq_true_iff.2 ⟨h1, h2⟩) | (intros; simp_all; done))); conv => whnf)
    | (refine Or.inr (And.intro rfl ?_); first | (refine congrArg intV ?_) | (refine congrArg boolV ?_) | (refine tupII ?_ ?_) | (refine tupIII ?_ ?_ ?_) | (refine tupU ?_ ?_ ?_ ?_ ?_) | exact rfl))
  · unfold cndE
    rw [if_pos (by omega)]
  · unfold cndE
    rw [if_neg (by omega), if_pos (by omega)]
  have hE : cndE c = if fst (nodE c) c.n ≠ 0 then fst (nodE c) c.n else if sp c ((c.n : Int) - 1) ≠ 0 then 3 else 0 := by unfold cndE; rw [if_neg (by omega), if_neg (by omega)]
  have hn40 : c.n ≤ 40 ∧ 0 < c.n := by omega
  clear hb
  refine sem_loop tab_ok gamI2_ok mixed (by kernel_rfl) (O := lex) (fun i : Nat => ⟨[(0, cV c), (13, cV c), (14, intV c.n), (15, intV i)], []⟩) (fun i => i ≤ c.n ∧ fst (nodE c) i = 0) (fun i => c.n - i) ⟨0, [], ⟨Nat.zero_le _, rfl⟩, ?_⟩ fun i hi => ?_
  · refine Sub.of ?_ ?_ ?_
    repeat' (first | (refine And.intro ?_ ?_) | exact trivial | exact fun _ _ _ => hsc _ _ | (exact congrArg intV (by first | with_reducible rfl | with_reducible assumption)) | exact (rfl : AV.idsLt _ _ = true) | exact (rfl : _ = AV.ren _ (.own _)) | exact (rfl : _ = AV.ren _ (.fn _ _)) | exact (rfl : _ = AV.ren _ (.gh _)) | (exact congrArg intV (by assumption)) | (refine congrArg intV ((wr_id (by omega) (by omega)).trans (by omega))) | exact rfl | (simp only [Int.toNat_natCast, Int.toNat_zero, Nat.sub_zero, Nat.zero_add]; first | exact rfl | done) | exact all0 | exact fun h => Bool.noConfusion h | exact fun _ _ _ _ => rfl | omega)
  have fin : ∀ v, nodE c i = v → v ≠ 0 → i < c.n → v = cndE c := fun v h1 h0 hlt => by
    rw [hE, fst_at hi.2 (by rw [h1]; exact h0) hlt, h1, if_pos h0]
  have hmn := man_is c i
  conv => whnf
  repeat' (first
    | (refine NilG.mk fun bn hbn hbx => ?_; conv => whnf)
    | (refine Both.mk ?_ ?_ <;> conv => whnf)
    | ((first | (refine MkG.box 1 rfl rfl rfl (by decide) ?_) | (refine MkG.box 2 rfl rfl rfl (by decide) ?_) | (refine MkG.box 3 rfl rfl rfl (by decide) ?_) | (refine MkG.row ?_)); conv => whnf)
    | exact trivial
    | (refine Br.mk (fun hb => ?_) (fun hb => ?_) <;> (first | (exfalso; revert hb; decide) | ((try simp only [BL] at hb) <;> (try simp only [DL] at hb) <;> conv => whnf)))
    | (refine And.intro ?_ ?_; (focus (first | exact id | exact rfl | exact trivial | (intro hg; first | exact hg | exact rfl | (simp; done) | (simp at hg ⊢; assumption)) | omega | decide | exact is2_c _ _ _ | exact is1_c _ _ | exact isS_c _ _ | exact isB_c _ _ | exact Nat.le_refl _ | assumption | exact mulLe (by decide) (by omega) | exact mulLe2 (by decide) (by omega) (by omega) | (intros; simp only [BL] at *; omega) | (intros; (try simp only [BL] at *); (try simp only [DL] at *); omega) | (intros; simp only [BL] at *; rw [wr_id (by omega) (by omega)]; omega) | (intro h1 h2; exact Bool.and_eq_true_iff.2 ⟨h1, h2⟩) | exact hs _ (by omega) | (intros; simp_all; done))); conv => whnf)
    | (refine Or.inr (And.intro rfl ?_); first | (refine congrArg intV ?_) | (refine congrArg boolV ?_) | (refine tupII ?_ ?_) | (refine tupIII ?_ ?_ ?_) | (refine tupU ?_ ?_ ?_ ?_ ?_) | exact rfl))
  · refine fin 1 ?_ (by decide) (by omega); unfold nodE; rw [if_pos (by omega)]
  · exact fin 6 (nodE_is6 (by omega) (by omega) hb) (by decide) (by omega)
  · have hnm := hb
    clear hb
    have hk7 : c.kd i = 0 ∨ c.kd i = 1 ∨ c.kd i = 2 ∨ c.kd i = 3 ∨ c.kd i = 4 ∨ c.kd i = 5 ∨ c.kd i = 6 := by omega
    rcases hk7 with hq | hq | hq | hq | hq | hq | hq
    all_goals
      have hkt : c.kd ((i : Nat) : Int).toNat = _ := hq
      rw [hkt]
      conv => whnf
      repeat' (first
        | (refine NilG.mk fun bn hbn hbx => ?_; conv => whnf)
        | (refine Both.mk ?_ ?_ <;> conv => whnf)
        | ((first | (refine MkG.box 1 rfl rfl rfl (by decide) ?_) | (refine MkG.box 2 rfl rfl rfl (by decide) ?_) | (refine MkG.box 3 rfl rfl rfl (by decide) ?_) | (refine MkG.row ?_)); conv => whnf)
        | exact trivial
        | (refine Br.mk (fun hb => ?_) (fun hb => ?_) <;> (first | (exfalso; revert hb; decide) | ((try simp only [BL] at hb) <;> (try simp only [DL] at hb) <;> conv => whnf)))
        | (refine And.intro ?_ ?_; (focus (first | exact id | exact rfl | exact trivial | (intro hg; first | exact hg | exact rfl | (simp; done) | (simp at hg ⊢; assumption)) | omega | decide | exact is2_c _ _ _ | exact is1_c _ _ | exact isS_c _ _ | exact isB_c _ _ | exact Nat.le_refl _ | assumption | exact mulLe (by decide) (by omega) | exact mulLe2 (by decide) (by omega) (by omega) | (intros; simp only [BL] at *; omega) | (intros; (try simp only [BL] at *); (try simp only [DL] at *); omega) | (intros; simp only [BL] at *; rw [wr_id (by omega) (by omega)]; omega) | (intro h1 h2; exact Bool.and_eq_true_iff.2 ⟨h1, h2⟩) | exact fun _ => ⟨rfl, by decide, by decide⟩ | exact fun _ => ⟨isC_c c, show c.n ≤ 1000000 by omega, show ((i : Nat) : Int) < c.n by omega⟩ | (intros; simp_all; done))); conv => whnf)
        | (refine Or.inr (And.intro rfl ?_); first | (refine congrArg intV ?_) | (refine congrArg boolV ?_) | (refine tupII ?_ ?_) | (refine tupIII ?_ ?_ ?_) | (refine tupU ?_ ?_ ?_ ?_ ?_) | exact rfl))
      · rw [show cOf c.n (cN c) = c from rfl] at hb
        refine fin 3 (nodE_is3 (by omega) (by omega) hnm ?_) (by decide) (by omega)
        rcases hb with ((⟨q1, q2⟩ | q) | q) | q
        · exact .inl ⟨by first | omega | exact absurd trivial q1.1 | exact absurd trivial q1.2, q2⟩
        · exact .inr (by omega)
        · exact .inr (by omega)
        · exact .inr (by omega)
      · rw [show cOf c.n (cN c) = c from rfl] at hb
        obtain ⟨⟨⟨q1, q2⟩, q3⟩, q4⟩ := hb
        have h1 : nodE c i = 0 := nodE_is0 (by omega) (by omega) hnm (by rcases q1 with q | q; · exact .inl (by omega)
                                                                         · exact .inr q) (by omega)
        refine ⟨i + 1, [], ⟨by omega, fst_next hi.2 h1⟩, by omega, ?_⟩
        refine Sub.of ?_ ?_ ?_
        repeat' (first | (refine And.intro ?_ ?_) | exact trivial | exact fun _ _ _ => hsc _ _ | (exact congrArg intV (by first | with_reducible rfl | with_reducible assumption)) | exact (rfl : AV.idsLt _ _ = true) | exact (rfl : _ = AV.ren _ (.own _)) | exact (rfl : _ = AV.ren _ (.fn _ _)) | exact (rfl : _ = AV.ren _ (.gh _)) | (exact congrArg intV (by assumption)) | (refine congrArg intV ((wr_id (by omega) (by omega)).trans (by omega))) | exact rfl | (simp only [Int.toNat_natCast, Int.toNat_zero, Nat.sub_zero, Nat.zero_add]; first | exact rfl | done) | exact all0 | exact fun h => Bool.noConfusion h | exact fun _ _ _ _ => rfl | omega)
  · have hin : i = c.n := by omega
    have hf0 : fst (nodE c) c.n = 0 := by have := hi.2; rwa [hin] at this
    have hwn : IntKind.i64.wrap ((c.n : Int) - 1) = (c.n : Int) - 1 := wr_id (by omega) (by omega)
    refine And.intro ⟨isC_c c, show c.n ≤ 1000000 by omega, show IntKind.i64.wrap ((c.n : Int) - 1) < c.n by rw [hwn]; omega⟩ ?_
    conv => whnf
    repeat' (first
      | (refine NilG.mk fun bn hbn hbx => ?_; conv => whnf)
      | (refine Both.mk ?_ ?_ <;> conv => whnf)
      | ((first | (refine MkG.box 1 rfl rfl rfl (by decide) ?_) | (refine MkG.box 2 rfl rfl rfl (by decide) ?_) | (refine MkG.box 3 rfl rfl rfl (by decide) ?_) | (refine MkG.row ?_)); conv => whnf)
      | exact trivial
      | (refine Br.mk (fun hb => ?_) (fun hb => ?_) <;> (first | (exfalso; revert hb; decide) | ((try simp only [BL] at hb) <;> (try simp only [DL] at hb) <;> conv => whnf)))
      | (refine And.intro ?_ ?_; (focus (first | exact id | exact rfl | exact trivial | (intro hg; first | exact hg | exact rfl | (simp; done) | (simp at hg ⊢; assumption)) | omega | decide | exact is2_c _ _ _ | exact is1_c _ _ | exact isS_c _ _ | exact isB_c _ _ | exact Nat.le_refl _ | assumption | exact mulLe (by decide) (by omega) | exact mulLe2 (by decide) (by omega) (by omega) | (intros; simp only [BL] at *; omega) | (intros; (try simp only [BL] at *); (try simp only [DL] at *); omega) | (intros; simp only [BL] at *; rw [wr_id (by omega) (by omega)]; omega) | (intro h1 h2; exact Bool.and_eq_true_iff.2 ⟨h1, h2⟩) | (intros; simp_all; done))); conv => whnf)
      | (refine Or.inr (And.intro rfl ?_); first | (refine congrArg intV ?_) | (refine congrArg boolV ?_) | (refine tupII ?_ ?_) | (refine tupIII ?_ ?_ ?_) | (refine tupU ?_ ?_ ?_ ?_ ?_) | exact rfl))
    all_goals
      rw [show cOf c.n (cN c) = c from rfl, hwn] at hb
    · rw [hE, if_neg (fun h => h hf0), if_pos hb]
    · rw [hE, if_neg (fun h => h hf0), if_neg (fun h => h hb)]

end Go.Proofs.Ytemfikdogdadnaa
