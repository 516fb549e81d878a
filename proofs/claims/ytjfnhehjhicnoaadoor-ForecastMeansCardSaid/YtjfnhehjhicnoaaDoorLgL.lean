/-
  ForecastMeans: the law's closures; what Band answers.
-/
import Derived.Test.YtjfnhehjhicnoaaDoorLgS
namespace Go.Proofs.YtjfnhehjhicnoaaDoor
open Go.RowKit

theorem lwIn (a b c : Int) : Fn1 Tryd.prog 20 [intV a, intV b, intV c] (boolV (inB a b c)) := by
  refine fn_of_wpx (O := lex) tab_ok gamFc_ok mixed Tryd.func20 (by kernel_rfl) rfl rfl rfl (by simp [Tryd.ntmps20]) (by kernel_rfl) ?_
  conv => whnf
  repeat' (first
    | (refine NilG.mk fun bn hbn hbx => ?_; conv => whnf)
    | (refine Both.mk ?_ ?_ <;> conv => whnf)
    | ((first | (refine MkG.box 1 rfl rfl rfl (by decide) ?_) | (refine MkG.box 2 rfl rfl rfl (by decide) ?_) | (refine MkG.box 3 rfl rfl rfl (by decide) ?_) | (refine MkG.row ?_)); conv => whnf)
    | (refine LitG.row ?_; conv => whnf)
    | exact trivial
    | (refine Br.mk (fun hb => ?_) (fun hb => ?_) <;> (first | (exfalso; revert hb; decide) | ((try simp only [BL] at hb) <;> (try simp only [DL] at hb) <;> conv => whnf)))
    | (refine And.intro ?_ ?_; (focus (first | exact id | exact rfl | exact trivial | (intro hg; first | exact hg | exact rfl | (simp; done) | (simp at hg ⊢; assumption)) | omega | decide | exact is2_c _ _ _ | exact is1_c _ _ | exact isS_c _ _ | exact isB_c _ _ | exact Nat.le_refl _ | assumption | exact mulLe (by decide) (by omega) | exact mulLe2 (by decide) (by omega) (by omega) | (intros; simp only [BL] at *; omega) | (intros; (try simp only [BL] at *); (try simp only [DL] at *); omega) | (intros; simp only [BL] at *; rw [wr_id (by omega) (by omega)]; omega) | (intro h1 h2; exact Bool.and_eq_true_iff.2 ⟨h1, h2⟩) | (intros; simp_all; done))); conv => whnf)
    | (refine Or.inr (And.intro rfl ?_); first | (refine congrArg intV ?_) | (refine congrArg boolV ?_) | (refine tupII ?_ ?_) | (refine tupIII ?_ ?_ ?_) | (refine tupU ?_ ?_ ?_ ?_ ?_) | exact rfl))
  all_goals rfl
theorem lwSum (n : Nat) (v : Nat → Int) (hn : n ≤ 48) (hv : ∀ k, k < n → -100000 ≤ v k ∧ v k ≤ 100000) : Fn1 Tryd.prog 21 [.c (.sl 1 n (c1 v))] (intV (S v n)) := by
  refine fn_of_wpx (O := lex) tab_ok gamFc_ok mixed Tryd.func21 (by kernel_rfl) rfl rfl rfl (by simp [Tryd.ntmps21]) (by kernel_rfl) ?_
  conv => whnf
  repeat' (first
    | (refine NilG.mk fun bn hbn hbx => ?_; conv => whnf)
    | (refine Both.mk ?_ ?_ <;> conv => whnf)
    | ((first | (refine MkG.box 1 rfl rfl rfl (by decide) ?_) | (refine MkG.box 2 rfl rfl rfl (by decide) ?_) | (refine MkG.box 3 rfl rfl rfl (by decide) ?_) | (refine MkG.row ?_)); conv => whnf)
    | (refine LitG.row ?_; conv => whnf)
    | exact trivial
    | (refine Br.mk (fun hb => ?_) (fun hb => ?_) <;> (first | (exfalso; revert hb; decide) | ((try simp only [BL] at hb) <;> (try simp only [DL] at hb) <;> conv => whnf)))
    | (refine And.intro ?_ ?_; (focus (first | exact id | exact rfl | exact trivial | (intro hg; first | exact hg | exact rfl | (simp; done) | (simp at hg ⊢; assumption)) | omega | decide | exact is2_c _ _ _ | exact is1_c _ _ | exact isS_c _ _ | exact isB_c _ _ | exact Nat.le_refl _ | assumption | exact mulLe (by decide) (by omega) | exact mulLe2 (by decide) (by omega) (by omega) | (intros; simp only [BL] at *; omega) | (intros; (try simp only [BL] at *); (try simp only [DL] at *); omega) | (intros; simp only [BL] at *; rw [wr_id (by omega) (by omega)]; omega) | (intro h1 h2; exact Bool.and_eq_true_iff.2 ⟨h1, h2⟩) | (intros; simp_all; done))); conv => whnf)
    | (refine Or.inr (And.intro rfl ?_); first | (refine congrArg intV ?_) | (refine congrArg boolV ?_) | (refine tupII ?_ ?_) | (refine tupIII ?_ ?_ ?_) | (refine tupU ?_ ?_ ?_ ?_ ?_) | exact rfl))
  refine sem_loop tab_ok gamFc_ok mixed (by kernel_rfl) (O := lex) (fun i : Nat => ⟨[(3, intV (S v i)), (6, .c (.sl 1 n (c1 v))), (7, intV n), (8, intV i)], []⟩) (fun i => i ≤ n) (fun i => n - i) ⟨0, [], Nat.zero_le _, ?_⟩ fun i hi => ?_
  · refine Sub.of ?_ ?_ ?_
    repeat' (first | (refine And.intro ?_ ?_) | exact trivial | exact fun _ _ _ => hsc _ _ | (exact congrArg intV (by first | with_reducible rfl | with_reducible assumption)) | exact (rfl : AV.idsLt _ _ = true) | exact (rfl : _ = AV.ren _ (.own _)) | exact (rfl : _ = AV.ren _ (.fn _ _)) | exact (rfl : _ = AV.ren _ (.gh _)) | (exact congrArg intV (by assumption)) | (refine congrArg intV ((wr_id (by omega) (by omega)).trans (by omega))) | exact rfl | (simp only [NLc]; first | exact rfl | done) | exact all0 | exact fun h => Bool.noConfusion h | exact fun _ _ _ _ => rfl | omega)
  have hS := S_le (p := v) (a := -100000) (b := 100000) (k := i) fun k hk => hv k (by omega)
  conv => whnf
  repeat' (first
    | (refine NilG.mk fun bn hbn hbx => ?_; conv => whnf)
    | (refine Both.mk ?_ ?_ <;> conv => whnf)
    | ((first | (refine MkG.box 1 rfl rfl rfl (by decide) ?_) | (refine MkG.box 2 rfl rfl rfl (by decide) ?_) | (refine MkG.box 3 rfl rfl rfl (by decide) ?_) | (refine MkG.row ?_)); conv => whnf)
    | (refine LitG.row ?_; conv => whnf)
    | exact trivial
    | (refine Br.mk (fun hb => ?_) (fun hb => ?_) <;> (first | (exfalso; revert hb; decide) | ((try simp only [BL] at hb) <;> (try simp only [DL] at hb) <;> conv => whnf)))
    | (refine And.intro ?_ ?_; (focus (first | exact id | exact rfl | exact trivial | (intro hg; first | exact hg | exact rfl | (simp; done) | (simp at hg ⊢; assumption)) | omega | decide | exact is2_c _ _ _ | exact is1_c _ _ | exact isS_c _ _ | exact isB_c _ _ | exact Nat.le_refl _ | assumption | exact mulLe (by decide) (by omega) | exact mulLe2 (by decide) (by omega) (by omega) | (intros; simp only [BL] at *; omega) | (intros; (try simp only [BL] at *); (try simp only [DL] at *); omega) | (intros; simp only [BL] at *; rw [wr_id (by omega) (by omega)]; omega) | (intro h1 h2; exact Bool.and_eq_true_iff.2 ⟨h1, h2⟩) | (intros; simp_all; done))); conv => whnf)
    | (refine Or.inr (And.intro rfl ?_); first | (refine congrArg intV ?_) | (refine congrArg boolV ?_) | (refine tupII ?_ ?_) | (refine tupIII ?_ ?_ ?_) | (refine tupU ?_ ?_ ?_ ?_ ?_) | exact rfl))
  · have := hv i (by omega)
    have e : IntKind.i64.wrap (S v i + v i) = S v (i + 1) := wr_id (by omega) (by omega)
    refine ⟨i + 1, [], by omega, by omega, ?_⟩
    refine Sub.of ?_ ?_ ?_
    repeat' (first | (refine And.intro ?_ ?_) | exact trivial | exact fun _ _ _ => hsc _ _ | (exact congrArg intV (by first | with_reducible rfl | with_reducible assumption)) | exact (rfl : AV.idsLt _ _ = true) | exact (rfl : _ = AV.ren _ (.own _)) | exact (rfl : _ = AV.ren _ (.fn _ _)) | exact (rfl : _ = AV.ren _ (.gh _)) | (exact congrArg intV (by assumption)) | (refine congrArg intV ((wr_id (by omega) (by omega)).trans (by omega))) | exact rfl | (simp only [NLc]; first | exact rfl | done) | exact all0 | exact fun h => Bool.noConfusion h | exact fun _ _ _ _ => rfl | omega)
  · obtain rfl : i = n := by omega
    rfl
def okD (v : Nat → Int) (K : Nat) (w : Int) (j : Nat) : Prop := bdD v K j ≤ (K : Int) * w ∧ -bdD v K j ≤ (K : Int) * w
instance (v : Nat → Int) (K : Nat) (w : Int) (j : Nat) : Decidable (okD v K w j) := by
  unfold okD
  infer_instance
def fitB (v : Nat → Int) (K : Nat) (w : Int) (m : Nat) : Bool := decide (∀ j, j < m → okD v K w j)
theorem bW_mono {v : Nat → Int} {K : Nat} : ∀ {i m : Nat}, i ≤ m → bW v K i ≤ bW v K m
  | i, 0, h => by
    obtain rfl : i = 0 := by omega
    exact Int.le_refl _
  | i, m + 1, h => by
    rcases Nat.lt_or_ge i (m + 1) with h1 | h1
    · have := bW_mono (v := v) (K := K) (i := i) (m := m) (by omega)
      simp only [bW]
      omega
    · obtain rfl : i = m + 1 := by omega
      exact Int.le_refl _
theorem bW_fit {v : Nat → Int} {K : Nat} (hK : 0 < K) (m : Nat) : fitB v K (bW v K m) m = true := by
  refine decide_eq_true fun j hj => ?_
  have h1 := bW_mono (v := v) (K := K) (i := j + 1) (m := m) hj
  have h2 : (max (bdD v K j) (-bdD v K j) + K - 1).tdiv K ≤ bW v K (j + 1) := by
    simp only [bW]
    omega
  exact (up_le hK).1 (Int.le_trans h2 h1)
theorem bW_min {v : Nat → Int} {K : Nat} (hK : 0 < K) : ∀ m, 0 < bW v K m → fitB v K (bW v K m - 1) m = false
  | 0, h => by simp [bW] at h
  | m + 1, h => by
    refine decide_eq_false fun hall => ?_
    by_cases hc : bW v K m < (max (bdD v K m) (-bdD v K m) + K - 1).tdiv K
    · have h1 : bW v K (m + 1) = (max (bdD v K m) (-bdD v K m) + K - 1).tdiv K := by
        simp only [bW]
        omega
      have h2 := (up_le hK).2 (hall m (by omega))
      omega
    · have h1 : bW v K (m + 1) = bW v K m := by
        simp only [bW]
        omega
      rw [h1] at hall h
      exact of_decide_eq_false (bW_min hK m h) fun j hj => hall j (by omega)
def ordF2 : Ord := fun id =>  if id = 4 then some (.go 2 (.go 6 (.go 7 (.go 8 (.go 9 (.go 10 (.go 11 (.go 12 (.fork (.alt 0 (.fork (.alt 1 (.go 3 (.fork (.alt 4 (.go 5 (.go 13 (.go 14 (.go 15 ((.done)))))) (.alt 13 (.go 4 (.go 5 (.go 14 (.go 15 ((.done)))))) (.none))))) (.alt 13 (.go 1 (.go 3 (.go 4 (.go 5 (.go 14 (.go 15 ((.done)))))))) (.none)))) (.alt 1 (.go 3 (.fork (.alt 0 (.fork (.alt 4 (.go 5 (.go 13 (.go 14 (.go 15 ((.done)))))) (.alt 13 (.go 4 (.go 5 (.go 14 (.go 15 ((.done)))))) (.none)))) (.alt 4 (.fork (.alt 0 (.go 5 (.go 13 (.go 14 (.go 15 ((.done)))))) (.alt 13 (.go 0 (.go 5 (.go 14 (.go 15 ((.done)))))) (.none)))) (.alt 13 (.go 0 (.go 4 (.go 5 (.go 14 (.go 15 ((.done))))))) (.none)))))) (.alt 13 (.go 0 (.go 1 (.go 3 (.go 4 (.go 5 (.go 14 (.go 15 ((.done))))))))) (.none))))))))))))) else none
abbrev fitO (n : Nat) (v : Nat → Int) (K : Nat) : List OB := [.box [.c (.sl 1 n (c1 v))], .box [intV (K : Int)], .box [.fn 21 []]]
set_option maxHeartbeats 8000000 in
set_option maxRecDepth 100000 in
theorem lwFit (n : Nat) (v : Nat → Int) (K : Nat) (w : Int) (hn : n ≤ 48) (hK1 : 1 ≤ K) (hKn : K ≤ n) (hv : ∀ k, k < n → -100000 ≤ v k ∧ v k ≤ 100000) (hw : -10000000 ≤ w ∧ w ≤ 10000000) : FnM Tryd.prog 23 (fitO n v K) [intV w, .lp 1 0, .lp 0 0, .lp 2 0] (fun obs r => obs = fitO n v K ∧ r = boolV (fitB v K w (n - K))) := by
  refine fnM_of_wpx (O := ordF2) tab_ok gamFc_ok mixed Tryd.func23 (by kernel_rfl) rfl rfl rfl (by simp [Tryd.ntmps23]) (by kernel_rfl) ?_
  conv => whnf
  repeat' (first
    | (refine NilG.mk fun bn hbn hbx => ?_; conv => whnf)
    | (refine Both.mk ?_ ?_ <;> conv => whnf)
    | ((first | (refine MkG.box 1 rfl rfl rfl (by decide) ?_) | (refine MkG.box 2 rfl rfl rfl (by decide) ?_) | (refine MkG.box 3 rfl rfl rfl (by decide) ?_) | (refine MkG.row ?_)); conv => whnf)
    | (refine LitG.row ?_; conv => whnf)
    | exact trivial
    | (refine Br.mk (fun hb => ?_) (fun hb => ?_) <;> (first | (exfalso; revert hb; decide) | ((try simp only [BL] at hb) <;> (try simp only [DL] at hb) <;> (first | (exfalso; omega) | (conv => whnf)))))
    | (refine And.intro ?_ ?_; (focus (first | exact id | exact rfl | exact trivial | (intro hg; first | exact hg | exact rfl | (simp; done) | (simp at hg ⊢; assumption)) | omega | decide | exact is2_c _ _ _ | exact is1_c _ _ | exact isS_c _ _ | exact isB_c _ _ | exact Nat.le_refl _ | assumption | exact mulLe (by decide) (by omega) | exact mulLe2 (by decide) (by omega) (by omega) | (intros; simp only [BL] at *; omega) | (intros; (try simp only [BL] at *); (try simp only [DL] at *); omega) | (intros; simp only [BL] at *; rw [wr_id (by omega) (by omega)]; omega) | (intro h1 h2; exact Bool.and_eq_true_iff.2 ⟨h1, h2⟩) | (intros; simp_all; done))); conv => whnf)
    | (refine Or.inr (And.intro rfl ?_); first | (refine congrArg intV ?_) | (refine congrArg boolV ?_) | (refine tupII ?_ ?_) | (refine tupIII ?_ ?_ ?_) | (refine tupU ?_ ?_ ?_ ?_ ?_) | exact rfl))
  refine sem_loop tab_ok gamFc_ok mixed (by kernel_rfl) (O := ordF2) (fun j : Nat => ⟨[(0, intV w), (1, .lp 1 0), (2, .lp 0 0), (3, .lp 2 0), (6, intV ((K + j : Nat) : Int)), (1000000, .gh 0), (1000001, .gh 1), (1000002, .gh 2)], [.box [.c (.sl 1 n (c1 v))], .box [intV (K : Int)], .box [.fn 21 []]]⟩) (fun j => K + j ≤ n ∧ ∀ i, i < j → okD v K w i) (fun j => n - (K + j)) ⟨0, [?_, ?_, ?_], ⟨hKn, fun i hi => absurd hi (Nat.not_lt_zero i)⟩, ?_⟩ fun j hj => ?_
  rotate_left 3
  · refine Sub.of ?_ ?_ ?_
    repeat' (first | (refine And.intro ?_ ?_) | exact trivial | exact fun _ _ _ => hsc _ _ | (exact congrArg intV (by first | with_reducible rfl | with_reducible assumption)) | exact (rfl : AV.idsLt _ _ = true) | exact (rfl : _ = AV.ren _ (.own _)) | exact (rfl : _ = AV.ren _ (.fn _ _)) | exact (rfl : _ = AV.ren _ (.gh _)) | (exact congrArg intV (by assumption)) | (refine congrArg intV ((wr_id (by omega) (by omega)).trans (by omega))) | exact rfl | (simp only [NLc]; first | exact rfl | done) | exact all0 | exact fun h => Bool.noConfusion h | exact fun _ _ _ _ => rfl | omega)
  obtain ⟨hj, hok⟩ := hj
  have e1 : IntKind.i64.wrap (((K + j : Nat) : Int) - (K : Int)) = ((j : Nat) : Int) := (wr_id (by omega) (by omega)).trans (by omega)
  have hkw := mulB (a := (K : Int)) (b := w) (A := 48) (B := 10000000) (by omega) (by omega) (by omega) (by omega) (by omega)
  have g0 : IntKind.i64.wrap ((K : Int) * w) = (K : Int) * w := wr_id (by omega) (by omega)
  rcases Nat.lt_or_ge (K + j) n with hlt | hge
  · obtain ⟨d1, d2, d3, d4, d5, d6⟩ := bdD_le hv hn (j := j) (K := K) hlt
    have g1 : IntKind.i64.wrap ((K : Int) * v (K + j)) = (K : Int) * v (K + j) := wr_id (by omega) (by omega)
    have g2 : IntKind.i64.wrap ((K : Int) * v (K + j) - S (fun i => v (j + i)) K) = bdD v K j := wr_id (by omega) (by omega)
    have g3 : IntKind.i64.wrap (0 - bdD v K j) = -bdD v K j := (wr_id (by omega) (by omega)).trans (by omega)
    have hSm : Fn1 Tryd.prog 21 [.c (.sl 1 K fun i q => c1 v (j + i) q)] (intV (S (fun i => v (j + i)) K)) := lwSum K (fun i => v (j + i)) (by omega) fun i hi => hv (j + i) (by omega)
    have hbad : ∀ (h : bdD v K j > (K : Int) * w ∨ -bdD v K j > (K : Int) * w), fitB v K w (n - K) = false := fun h => decide_eq_false fun hall => by
      have := hall j (by omega)
      unfold okD at this
      omega
    conv => whnf
    repeat' (first
      | (refine NilG.mk fun bn hbn hbx => ?_; conv => whnf)
      | (refine Both.mk ?_ ?_ <;> conv => whnf)
      | ((first | (refine MkG.box 1 rfl rfl rfl (by decide) ?_) | (refine MkG.box 2 rfl rfl rfl (by decide) ?_) | (refine MkG.box 3 rfl rfl rfl (by decide) ?_) | (refine MkG.row ?_)); conv => whnf)
      | (refine LitG.row ?_; conv => whnf)
      | exact trivial
      | (refine Br.mk (fun hb => ?_) (fun hb => ?_) <;> (first | (exfalso; revert hb; decide) | ((try simp only [BL] at hb) <;> (try simp only [DL] at hb) <;> (first | (exfalso; omega) | (conv => whnf)))))
      | (refine And.intro ?_ ?_; (focus (first | exact id | exact rfl | exact trivial | (intro hg; first | exact hg | exact rfl | (simp; done) | (simp at hg ⊢; assumption)) | omega | decide | exact is2_c _ _ _ | exact is1_c _ _ | exact isS_c _ _ | exact isB_c _ _ | exact Nat.le_refl _ | assumption | exact mulLe (by decide) (by omega) | exact mulLe2 (by decide) (by omega) (by omega) | (intros; simp only [BL] at *; omega) | (intros; (try simp only [BL] at *); (try simp only [DL] at *); omega) | (intros; simp only [BL] at *; rw [wr_id (by omega) (by omega)]; omega) | (intro h1 h2; exact Bool.and_eq_true_iff.2 ⟨h1, h2⟩) | (intros; simp_all; done))); conv => whnf)
      | (refine Or.inr (And.intro rfl ?_); first | (refine congrArg intV ?_) | (refine congrArg boolV ?_) | (refine tupII ?_ ?_) | (refine tupIII ?_ ?_ ?_) | (refine tupU ?_ ?_ ?_ ?_ ?_) | exact rfl))
    all_goals
      rw [e1]
      simp only [Int.toNat_natCast]
      rw [show K + j - j = K by omega]
      refine CallG.mk (Fn.mono hSm ?_)
      rintro obs r ⟨rfl, rfl⟩
      conv => whnf
      repeat' (first
        | (refine NilG.mk fun bn hbn hbx => ?_; conv => whnf)
        | (refine Both.mk ?_ ?_ <;> conv => whnf)
        | ((first | (refine MkG.box 1 rfl rfl rfl (by decide) ?_) | (refine MkG.box 2 rfl rfl rfl (by decide) ?_) | (refine MkG.box 3 rfl rfl rfl (by decide) ?_) | (refine MkG.row ?_)); conv => whnf)
        | (refine LitG.row ?_; conv => whnf)
        | exact trivial
        | (refine Br.mk (fun hb => ?_) (fun hb => ?_) <;> (first | (exfalso; revert hb; decide) | ((try simp only [BL] at hb) <;> (try simp only [DL] at hb) <;> (first | (exfalso; omega) | (conv => whnf)))))
        | (refine And.intro ?_ ?_; (focus (first | exact id | exact rfl | exact trivial | (intro hg; first | exact hg | exact rfl | (simp; done) | (simp at hg ⊢; assumption)) | omega | decide | exact is2_c _ _ _ | exact is1_c _ _ | exact isS_c _ _ | exact isB_c _ _ | exact Nat.le_refl _ | assumption | exact mulLe (by decide) (by omega) | exact mulLe2 (by decide) (by omega) (by omega) | (intros; simp only [BL] at *; omega) | (intros; (try simp only [BL] at *); (try simp only [DL] at *); omega) | (intros; simp only [BL] at *; rw [wr_id (by omega) (by omega)]; omega) | (intro h1 h2; exact Bool.and_eq_true_iff.2 ⟨h1, h2⟩) | (intros; simp_all; done))); conv => whnf)
        | (refine Or.inr (And.intro rfl ?_); first | (refine congrArg intV ?_) | (refine congrArg boolV ?_) | (refine tupII ?_ ?_) | (refine tupIII ?_ ?_ ?_) | (refine tupU ?_ ?_ ?_ ?_ ?_) | exact rfl))
    all_goals simp only [g1, g2, g0, g3] at hb
    all_goals first
      | (refine ⟨[0, 1, 2], fitO n v K, boolV (fitB v K w (n - K)), rfl, ?_, congrArg boolV (hbad hb).symm, rfl, ⟨rfl, rfl, rfl, trivial⟩, Nat.le_refl _, rfl, rfl⟩
         repeat' (first | (refine And.intro ?_ ?_) | exact trivial | exact rfl))
      | skip
    all_goals
      have hok' : ∀ i, i < j + 1 → okD v K w i := fun i hi => by
        rcases Nat.lt_succ_iff_lt_or_eq.1 hi with h | rfl
        · exact hok i h
        · unfold okD
          omega
      refine ⟨j + 1, [?_, ?_, ?_], ⟨by omega, hok'⟩, by omega, ?_⟩
      rotate_left 3
      refine Sub.of ?_ ?_ ?_
      repeat' (first | (refine And.intro ?_ ?_) | exact trivial | exact fun _ _ _ => hsc _ _ | (exact congrArg intV (by first | with_reducible rfl | with_reducible assumption)) | exact (rfl : AV.idsLt _ _ = true) | exact (rfl : _ = AV.ren _ (.own _)) | exact (rfl : _ = AV.ren _ (.fn _ _)) | exact (rfl : _ = AV.ren _ (.gh _)) | (exact congrArg intV (by assumption)) | (refine congrArg intV ((wr_id (by omega) (by omega)).trans (by omega))) | exact rfl | (simp only [NLc]; first | exact rfl | done) | exact all0 | exact fun h => Bool.noConfusion h | exact fun _ _ _ _ => rfl | omega)
  · obtain rfl : j = n - K := by omega
    conv => whnf
    repeat' (first
      | (refine NilG.mk fun bn hbn hbx => ?_; conv => whnf)
      | (refine Both.mk ?_ ?_ <;> conv => whnf)
      | ((first | (refine MkG.box 1 rfl rfl rfl (by decide) ?_) | (refine MkG.box 2 rfl rfl rfl (by decide) ?_) | (refine MkG.box 3 rfl rfl rfl (by decide) ?_) | (refine MkG.row ?_)); conv => whnf)
      | (refine LitG.row ?_; conv => whnf)
      | exact trivial
      | (refine Br.mk (fun hb => ?_) (fun hb => ?_) <;> (first | (exfalso; revert hb; decide) | ((try simp only [BL] at hb) <;> (try simp only [DL] at hb) <;> (first | (exfalso; omega) | (conv => whnf)))))
      | (refine And.intro ?_ ?_; (focus (first | exact id | exact rfl | exact trivial | (intro hg; first | exact hg | exact rfl | (simp; done) | (simp at hg ⊢; assumption)) | omega | decide | exact is2_c _ _ _ | exact is1_c _ _ | exact isS_c _ _ | exact isB_c _ _ | exact Nat.le_refl _ | assumption | exact mulLe (by decide) (by omega) | exact mulLe2 (by decide) (by omega) (by omega) | (intros; simp only [BL] at *; omega) | (intros; (try simp only [BL] at *); (try simp only [DL] at *); omega) | (intros; simp only [BL] at *; rw [wr_id (by omega) (by omega)]; omega) | (intro h1 h2; exact Bool.and_eq_true_iff.2 ⟨h1, h2⟩) | (intros; simp_all; done))); conv => whnf)
      | (refine Or.inr (And.intro rfl ?_); first | (refine congrArg intV ?_) | (refine congrArg boolV ?_) | (refine tupII ?_ ?_) | (refine tupIII ?_ ?_ ?_) | (refine tupU ?_ ?_ ?_ ?_ ?_) | exact rfl))
    refine ⟨[0, 1, 2], fitO n v K, boolV (fitB v K w (n - K)), rfl, ?_, ?_, rfl, ⟨rfl, rfl, rfl, trivial⟩, Nat.le_refl _, rfl, rfl⟩
    · repeat' (first | (refine And.intro ?_ ?_) | exact trivial | exact rfl)
    · exact congrArg boolV (decide_eq_true hok).symm
end Go.Proofs.YtjfnhehjhicnoaaDoor
