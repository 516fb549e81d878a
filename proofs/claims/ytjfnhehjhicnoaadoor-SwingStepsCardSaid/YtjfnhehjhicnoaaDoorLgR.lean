/-
  The reference's text of a fraction.
-/
import Derived.Test.YtjfnhehjhicnoaaDoorLgZ
namespace Go.Proofs.YtjfnhehjhicnoaaDoor
open Go.RowKit

theorem tdiv_dvd {n : Int} {g : Nat} (hg : g ∣ n.natAbs) : n.tdiv (g : Int) = n / (g : Int) := by
  obtain ⟨q, hq⟩ := hg
  by_cases h : n < 0
  · have h2 : n = (g : Int) * (-(q : Int)) := by
      rw [Int.mul_neg, ← Int.natCast_mul, ← hq]
      omega
    by_cases hg0 : (g : Int) = 0
    · rw [hg0, Int.tdiv_zero, Int.ediv_zero]
    · rw [h2, Int.mul_tdiv_cancel_left _ hg0, Int.mul_ediv_cancel_left _ hg0]
  · exact Int.tdiv_eq_ediv_of_nonneg (by omega)
theorem quo_abs {n : Int} {g : Nat} (hg0 : 0 < g) (hg : g ∣ n.natAbs) : (n / (g : Int)).natAbs ≤ n.natAbs := by
  rw [← tdiv_dvd hg, Int.natAbs_tdiv]
  exact Nat.div_le_self _ _
theorem rt0 {N : Int} {D : Nat} (h : N = 0) (hD : D = 1) : (⟨#[48]⟩ : ByteArray) = rT N D := by
  subst h hD
  unfold rT
  rw [if_pos rfl]
  unfold sI
  rw [if_neg (by decide), show (0 : Int).natAbs = 0 from rfl, decB_lt (by decide)]
  rfl
theorem rt1 {N : Int} {D : Nat} (hD : D = 1) : sI N = rT N D := by
  unfold rT
  rw [if_pos hD]
theorem rt2 {N : Int} {D : Nat} (hD : ¬ D = 1) : sI N ++ ⟨#[47]⟩ ++ sI (D : Int) = rT N D := by
  unfold rT
  rw [if_neg hD, sI_nat]
/-- what is written once the fraction is reduced -/
theorem quo_zero {n : Int} {d : Nat} (hd0 : 0 < d) (h : n / (Nat.gcd n.natAbs d : Int) = 0) : d / Nat.gcd n.natAbs d = 1 := by
  have hg0 : 0 < Nat.gcd n.natAbs d := Nat.gcd_pos_of_pos_right _ hd0
  have hgn : Nat.gcd n.natAbs d ∣ n.natAbs := Nat.gcd_dvd_left ..
  rw [← tdiv_dvd hgn] at h
  have h1 : n.natAbs / Nat.gcd n.natAbs d = 0 := by
    have := Int.natAbs_tdiv n (Nat.gcd n.natAbs d : Int)
    rw [h] at this
    exact this.symm
  have h2 : n.natAbs = 0 := by
    have := Nat.div_mul_cancel hgn
    rw [h1] at this
    omega
  rw [h2, Nat.gcd_zero_left]
  exact Nat.div_self hd0
set_option maxHeartbeats 8000000 in
theorem rfText (n : Int) (d : Nat) (hn : n.natAbs ≤ 100000000000000000) (hd0 : 0 < d) (hd : d ≤ 100000000000000000) : Fn1 Tryd.prog 22 [.agg [intV n, intV (d : Int)]] (strV (rT (n / (Nat.gcd n.natAbs d : Int)) (d / Nat.gcd n.natAbs d))) := by
  refine fn_of_wpx (O := lex) tab_ok gamLg_ok mixed Tryd.func22 (by kernel_rfl) rfl rfl rfl (by simp [Tryd.ntmps22]) (by kernel_rfl) ?_
  have hg0 : 0 < Nat.gcd n.natAbs d := Nat.gcd_pos_of_pos_right _ hd0
  have hgn : Nat.gcd n.natAbs d ∣ n.natAbs := Nat.gcd_dvd_left ..
  have hgd : Nat.gcd n.natAbs d ∣ d := Nat.gcd_dvd_right ..
  have hz := quo_zero (n := n) hd0
  have hqa := quo_abs hg0 hgn
  have hqd : d / Nat.gcd n.natAbs d ≤ d := Nat.div_le_self _ _
  have hNt : IntKind.i64.wrap (n.tdiv (Nat.gcd n.natAbs d : Int)) = n / (Nat.gcd n.natAbs d : Int) := by
    rw [tdiv_dvd hgn]
    exact wr_id (by omega) (by omega)
  have hone : Nat.gcd n.natAbs d = 1 → n / (Nat.gcd n.natAbs d : Int) = n ∧ d / Nat.gcd n.natAbs d = d := fun h => by
    rw [h]
    exact ⟨Int.ediv_one n, Nat.div_one d⟩
  have hg9 : ∀ x, Nat.gcd x 0 = Nat.gcd n.natAbs d → x = Nat.gcd n.natAbs d := fun x h => by rw [← h, Nat.gcd_zero_right]
  generalize hN : n / (Nat.gcd n.natAbs d : Int) = N at *
  generalize hD : d / Nat.gcd n.natAbs d = D at *
  have hDt : IntKind.i64.wrap ((d : Int).tdiv (Nat.gcd n.natAbs d : Int)) = ((D : Nat) : Int) := by
    rw [Int.tdiv_eq_ediv_of_nonneg (by omega), ← Int.natCast_ediv, hD]
    exact wr_id (by omega) (by omega)
  have hsN := sI_size (N := N) (Nat.lt_of_le_of_lt (Nat.le_trans hqa hn) (by decide))
  have hsD := sI_size (N := (D : Int)) (by rw [Int.natAbs_natCast]; exact Nat.lt_of_le_of_lt (Nat.le_trans hqd hd) (by decide))
  have hm1 : ∀ {a b : Nat}, a ≤ 19 → a + 1 ≤ maxLen := fun h => by unfold maxLen; omega
  have hm2 : (sI N ++ (⟨#[47]⟩ : ByteArray)).size + (sI (D : Int)).size ≤ maxLen := by
    rw [ByteArray.size_append]
    unfold maxLen
    show _ + 1 + _ ≤ _
    omega
  have hm3 : (sI N).size + (⟨#[47]⟩ : ByteArray).size ≤ maxLen := by
    unfold maxLen
    show _ + 1 ≤ _
    omega
  have hna : n < 0 → IntKind.i64.wrap (0 - n) = ((n.natAbs : Nat) : Int) := fun h => (wr_id (by omega) (by omega)).trans (by omega)
  have hnb : ¬ n < 0 → n = ((n.natAbs : Nat) : Int) := fun h => by omega
  conv => whnf
  repeat' (first
    | (refine NilG.mk fun bn hbn hbx => ?_; conv => whnf)
    | (refine Both.mk ?_ ?_ <;> conv => whnf)
    | ((first | (refine MkG.box 1 rfl rfl rfl (by decide) ?_) | (refine MkG.box 2 rfl rfl rfl (by decide) ?_) | (refine MkG.box 3 rfl rfl rfl (by decide) ?_) | (refine MkG.row ?_)); conv => whnf)
    | (refine LitG.row ?_; conv => whnf)
    | exact trivial
    | (refine Br.mk (fun hb => ?_) (fun hb => ?_) <;> (first | (exfalso; revert hb; decide) | ((try simp only [BL] at hb) <;> (try simp only [DL] at hb) <;> (first | (exfalso; omega) | (conv => whnf)))))
    | (refine And.intro ?_ ?_; (focus (first | exact id | exact rfl | exact trivial | (intro hg; first | exact hg | exact rfl | (simp; done) | (simp at hg ⊢; assumption)) | omega | decide | exact is2_c _ _ _ | exact is1_c _ _ | exact isS_c _ _ | exact isB_c _ _ | exact Nat.le_refl _ | assumption | exact mulLe (by decide) (by omega) | exact mulLe2 (by decide) (by omega) (by omega) | (intros; simp only [BL] at *; omega) | (intros; (try simp only [BL] at *); (try simp only [DL] at *); omega) | (intros; simp only [BL] at *; rw [wr_id (by omega) (by omega)]; omega) | (intro h1 h2; exact Bool.and_eq_true_iff.2 ⟨h1, h2⟩) | (intros; simp_all; done))); conv => whnf)
    | (refine Or.inr (And.intro rfl ?_); first | (refine congrArg intV ?_) | (refine congrArg boolV ?_) | (refine tupII ?_ ?_) | (refine tupIII ?_ ?_ ?_) | (refine tupU ?_ ?_ ?_ ?_ ?_) | exact rfl))
  all_goals
    have hnn := hna
    first
    | (replace hna := hna hb)
    | (replace hnb := hnb hb)
    refine sem_loop tab_ok gamLg_ok mixed (by kernel_rfl) (O := lex) (fun p : Nat × Nat => ⟨[(3, intV n), (4, intV (d : Int)), (5, intV (p.1 : Int)), (6, intV (p.2 : Int))], []⟩) (fun p => Nat.gcd p.1 p.2 = Nat.gcd n.natAbs d ∧ p.1 ≤ 100000000000000000 ∧ p.2 ≤ 100000000000000000) (fun p => p.2) ⟨(n.natAbs, d), [], ⟨rfl, hn, hd⟩, ?_⟩ fun p hp => ?_
    · refine Sub.of ?_ ?_ ?_
      repeat' (first | (refine And.intro ?_ ?_) | exact trivial | exact fun _ _ _ => hsc _ _ | (exact congrArg intV (by first | with_reducible rfl | with_reducible assumption)) | exact (rfl : AV.idsLt _ _ = true) | exact (rfl : _ = AV.ren _ (.own _)) | exact (rfl : _ = AV.ren _ (.fn _ _)) | exact (rfl : _ = AV.ren _ (.gh _)) | (exact congrArg intV (by assumption)) | (refine congrArg intV ((wr_id (by omega) (by omega)).trans (by omega))) | exact rfl | (simp only [NLc]; first | exact rfl | done) | exact all0 | exact fun h => Bool.noConfusion h | exact fun _ _ _ _ => rfl | omega)
    obtain ⟨x, y⟩ := p
    obtain ⟨hg, hx, hy⟩ := hp
    simp only at hg hx hy
    dsimp only
    rcases Nat.eq_zero_or_pos y with rfl | hy0
    · have hxg := hg9 x hg
      rw [hxg]
      clear hg hx hy hxg hg9
      by_cases hg1 : Nat.gcd n.natAbs d = 1
      · obtain ⟨q1, q2⟩ := hone hg1
        rw [hg1]
        subst q1 q2
        clear hone hNt hDt hN hD
        conv => whnf
        repeat' (first
          | (refine NilG.mk fun bn hbn hbx => ?_; conv => whnf)
          | (refine Both.mk ?_ ?_ <;> conv => whnf)
          | ((first | (refine MkG.box 1 rfl rfl rfl (by decide) ?_) | (refine MkG.box 2 rfl rfl rfl (by decide) ?_) | (refine MkG.box 3 rfl rfl rfl (by decide) ?_) | (refine MkG.row ?_)); conv => whnf)
          | (refine LitG.row ?_; conv => whnf)
          | exact trivial
          | (refine Br.mk (fun hb => ?_) (fun hb => ?_) <;> (first | (exfalso; revert hb; decide) | ((try simp only [BL] at hb) <;> (try simp only [DL] at hb) <;> (first | (exfalso; omega) | (conv => whnf)))))
          | (refine And.intro ?_ ?_; (focus (first | exact id | exact rfl | exact trivial | (intro hg; first | exact hg | exact rfl | (simp; done) | (simp at hg ⊢; assumption)) | omega | decide | exact is2_c _ _ _ | exact is1_c _ _ | exact isS_c _ _ | exact isB_c _ _ | exact Nat.le_refl _ | assumption | exact mulLe (by decide) (by omega) | exact mulLe2 (by decide) (by omega) (by omega) | (intros; simp only [BL] at *; omega) | (intros; (try simp only [BL] at *); (try simp only [DL] at *); omega) | (intros; simp only [BL] at *; rw [wr_id (by omega) (by omega)]; omega) | (intro h1 h2; exact Bool.and_eq_true_iff.2 ⟨h1, h2⟩) | (intros; simp_all; done))); conv => whnf)
          | (refine Or.inr (And.intro rfl ?_); first | (refine congrArg intV ?_) | (refine congrArg boolV ?_) | (refine tupII ?_ ?_) | (refine tupIII ?_ ?_ ?_) | (refine tupU ?_ ?_ ?_ ?_ ?_) | exact rfl))
        all_goals first
          | exact .inr ⟨rfl, congrArg strV (rt0 hb (hz hb))⟩
          | ( refine CallG.mk (Fn.mono (rfDec N (by omega) (by omega)) ?_); rintro obs r ⟨rfl, rfl⟩; ((conv => whnf); repeat' (first | (refine NilG.mk fun bn hbn hbx => ?_; conv => whnf) | (refine Both.mk ?_ ?_ <;> conv => whnf) | ((first | (refine MkG.box 1 rfl rfl rfl (by decide) ?_) | (refine MkG.box 2 rfl rfl rfl (by decide) ?_) | (refine MkG.box 3 rfl rfl rfl (by decide) ?_) | (refine MkG.row ?_)); conv => whnf) | (refine LitG.row ?_; conv => whnf) | exact trivial | (refine Br.mk (fun hb => ?_) (fun hb => ?_) <;> (first | (exfalso; revert hb; decide) | ((try simp only [BL] at hb) <;> (try simp only [DL] at hb) <;> conv => whnf))) | (refine And.intro ?_ ?_; (focus (first | exact id | exact rfl | exact trivial | (intro hg; first | exact hg | exact rfl | (simp; done) | (simp at hg ⊢; assumption)) | omega | decide | exact is2_c _ _ _ | exact is1_c _ _ | exact isS_c _ _ | exact isB_c _ _ | exact Nat.le_refl _ | assumption | exact mulLe (by decide) (by omega) | exact mulLe2 (by decide) (by omega) (by omega) | (intros; simp only [BL] at *; omega) | (intros; (try simp only [BL] at *); (try simp only [DL] at *); omega) | (intros; simp only [BL] at *; rw [wr_id (by omega) (by omega)]; omega) | (intro h1 h2; exact Bool.and_eq_true_iff.2 ⟨h1, h2⟩) | first | exact hm3 | exact hm2 | (intros; simp_all; done))); conv => whnf) | (refine Or.inr (And.intro rfl ?_); first | (refine congrArg intV ?_) | (refine congrArg boolV ?_) | (refine tupII ?_ ?_) | (refine tupIII ?_ ?_ ?_) | (refine tupU ?_ ?_ ?_ ?_ ?_) | exact rfl))))
          | skip
        all_goals first
          | exact .inr ⟨rfl, congrArg strV (rt1 (by omega))⟩
          | ( refine CallG.mk (Fn.mono (rfDec (D : Int) (by omega) (by omega)) ?_); rintro obs r ⟨rfl, rfl⟩; ((conv => whnf); repeat' (first | (refine NilG.mk fun bn hbn hbx => ?_; conv => whnf) | (refine Both.mk ?_ ?_ <;> conv => whnf) | ((first | (refine MkG.box 1 rfl rfl rfl (by decide) ?_) | (refine MkG.box 2 rfl rfl rfl (by decide) ?_) | (refine MkG.box 3 rfl rfl rfl (by decide) ?_) | (refine MkG.row ?_)); conv => whnf) | (refine LitG.row ?_; conv => whnf) | exact trivial | (refine Br.mk (fun hb => ?_) (fun hb => ?_) <;> (first | (exfalso; revert hb; decide) | ((try simp only [BL] at hb) <;> (try simp only [DL] at hb) <;> conv => whnf))) | (refine And.intro ?_ ?_; (focus (first | exact id | exact rfl | exact trivial | (intro hg; first | exact hg | exact rfl | (simp; done) | (simp at hg ⊢; assumption)) | omega | decide | exact is2_c _ _ _ | exact is1_c _ _ | exact isS_c _ _ | exact isB_c _ _ | exact Nat.le_refl _ | assumption | exact mulLe (by decide) (by omega) | exact mulLe2 (by decide) (by omega) (by omega) | (intros; simp only [BL] at *; omega) | (intros; (try simp only [BL] at *); (try simp only [DL] at *); omega) | (intros; simp only [BL] at *; rw [wr_id (by omega) (by omega)]; omega) | (intro h1 h2; exact Bool.and_eq_true_iff.2 ⟨h1, h2⟩) | first | exact hm3 | exact hm2 | (intros; simp_all; done))); conv => whnf) | (refine Or.inr (And.intro rfl ?_); first | (refine congrArg intV ?_) | (refine congrArg boolV ?_) | (refine tupII ?_ ?_) | (refine tupIII ?_ ?_ ?_) | (refine tupU ?_ ?_ ?_ ?_ ?_) | exact rfl))))
        all_goals exact .inr ⟨rfl, congrArg strV (rt2 (by omega))⟩
      · clear hone
        generalize Nat.gcd n.natAbs d = g at *
        conv => whnf
        repeat' (first
          | (refine NilG.mk fun bn hbn hbx => ?_; conv => whnf)
          | (refine Both.mk ?_ ?_ <;> conv => whnf)
          | ((first | (refine MkG.box 1 rfl rfl rfl (by decide) ?_) | (refine MkG.box 2 rfl rfl rfl (by decide) ?_) | (refine MkG.box 3 rfl rfl rfl (by decide) ?_) | (refine MkG.row ?_)); conv => whnf)
          | (refine LitG.row ?_; conv => whnf)
          | exact trivial
          | (refine Br.mk (fun hb => ?_) (fun hb => ?_) <;> (first | (exfalso; revert hb; decide) | ((try simp only [BL] at hb) <;> (try simp only [DL] at hb) <;> (first | (exfalso; omega) | (conv => whnf)))))
          | (refine And.intro ?_ ?_; (focus (first | exact id | exact rfl | exact trivial | (intro hg; first | exact hg | exact rfl | (simp; done) | (simp at hg ⊢; assumption)) | omega | decide | exact is2_c _ _ _ | exact is1_c _ _ | exact isS_c _ _ | exact isB_c _ _ | exact Nat.le_refl _ | assumption | exact mulLe (by decide) (by omega) | exact mulLe2 (by decide) (by omega) (by omega) | (intros; simp only [BL] at *; omega) | (intros; (try simp only [BL] at *); (try simp only [DL] at *); omega) | (intros; simp only [BL] at *; rw [wr_id (by omega) (by omega)]; omega) | (intro h1 h2; exact Bool.and_eq_true_iff.2 ⟨h1, h2⟩) | (intros; simp_all; done))); conv => whnf)
          | (refine Or.inr (And.intro rfl ?_); first | (refine congrArg intV ?_) | (refine congrArg boolV ?_) | (refine tupII ?_ ?_) | (refine tupIII ?_ ?_ ?_) | (refine tupU ?_ ?_ ?_ ?_ ?_) | exact rfl))
        all_goals first
          | exact .inr ⟨rfl, congrArg strV (rt0 (hNt.symm.trans hb) (hz (hNt.symm.trans hb)))⟩
          | (rw [hNt]; refine CallG.mk (Fn.mono (rfDec N (by omega) (by omega)) ?_); rintro obs r ⟨rfl, rfl⟩; ((conv => whnf); repeat' (first | (refine NilG.mk fun bn hbn hbx => ?_; conv => whnf) | (refine Both.mk ?_ ?_ <;> conv => whnf) | ((first | (refine MkG.box 1 rfl rfl rfl (by decide) ?_) | (refine MkG.box 2 rfl rfl rfl (by decide) ?_) | (refine MkG.box 3 rfl rfl rfl (by decide) ?_) | (refine MkG.row ?_)); conv => whnf) | (refine LitG.row ?_; conv => whnf) | exact trivial | (refine Br.mk (fun hb => ?_) (fun hb => ?_) <;> (first | (exfalso; revert hb; decide) | ((try simp only [BL] at hb) <;> (try simp only [DL] at hb) <;> conv => whnf))) | (refine And.intro ?_ ?_; (focus (first | exact id | exact rfl | exact trivial | (intro hg; first | exact hg | exact rfl | (simp; done) | (simp at hg ⊢; assumption)) | omega | decide | exact is2_c _ _ _ | exact is1_c _ _ | exact isS_c _ _ | exact isB_c _ _ | exact Nat.le_refl _ | assumption | exact mulLe (by decide) (by omega) | exact mulLe2 (by decide) (by omega) (by omega) | (intros; simp only [BL] at *; omega) | (intros; (try simp only [BL] at *); (try simp only [DL] at *); omega) | (intros; simp only [BL] at *; rw [wr_id (by omega) (by omega)]; omega) | (intro h1 h2; exact Bool.and_eq_true_iff.2 ⟨h1, h2⟩) | first | exact hm3 | exact hm2 | (intros; simp_all; done))); conv => whnf) | (refine Or.inr (And.intro rfl ?_); first | (refine congrArg intV ?_) | (refine congrArg boolV ?_) | (refine tupII ?_ ?_) | (refine tupIII ?_ ?_ ?_) | (refine tupU ?_ ?_ ?_ ?_ ?_) | exact rfl))))
          | skip
        all_goals first
          | exact .inr ⟨rfl, congrArg strV (rt1 (by rw [hDt] at hb; omega))⟩
          | (rw [hDt]; refine CallG.mk (Fn.mono (rfDec (D : Int) (by omega) (by omega)) ?_); rintro obs r ⟨rfl, rfl⟩; ((conv => whnf); repeat' (first | (refine NilG.mk fun bn hbn hbx => ?_; conv => whnf) | (refine Both.mk ?_ ?_ <;> conv => whnf) | ((first | (refine MkG.box 1 rfl rfl rfl (by decide) ?_) | (refine MkG.box 2 rfl rfl rfl (by decide) ?_) | (refine MkG.box 3 rfl rfl rfl (by decide) ?_) | (refine MkG.row ?_)); conv => whnf) | (refine LitG.row ?_; conv => whnf) | exact trivial | (refine Br.mk (fun hb => ?_) (fun hb => ?_) <;> (first | (exfalso; revert hb; decide) | ((try simp only [BL] at hb) <;> (try simp only [DL] at hb) <;> conv => whnf))) | (refine And.intro ?_ ?_; (focus (first | exact id | exact rfl | exact trivial | (intro hg; first | exact hg | exact rfl | (simp; done) | (simp at hg ⊢; assumption)) | omega | decide | exact is2_c _ _ _ | exact is1_c _ _ | exact isS_c _ _ | exact isB_c _ _ | exact Nat.le_refl _ | assumption | exact mulLe (by decide) (by omega) | exact mulLe2 (by decide) (by omega) (by omega) | (intros; simp only [BL] at *; omega) | (intros; (try simp only [BL] at *); (try simp only [DL] at *); omega) | (intros; simp only [BL] at *; rw [wr_id (by omega) (by omega)]; omega) | (intro h1 h2; exact Bool.and_eq_true_iff.2 ⟨h1, h2⟩) | first | exact hm3 | exact hm2 | (intros; simp_all; done))); conv => whnf) | (refine Or.inr (And.intro rfl ?_); first | (refine congrArg intV ?_) | (refine congrArg boolV ?_) | (refine tupII ?_ ?_) | (refine tupIII ?_ ?_ ?_) | (refine tupU ?_ ?_ ?_ ?_ ?_) | exact rfl))))
        all_goals exact .inr ⟨rfl, congrArg strV (rt2 (by rw [hDt] at hb; omega))⟩
    · have hst := gcd_step x y
      have e1 : (x : Int).tmod (y : Int) = ((x % y : Nat) : Int) := by
        rw [Int.tmod_eq_emod_of_nonneg (by omega)]
        omega
      have hlt : x % y < y := Nat.mod_lt x hy0
      generalize x % y = z at *
      conv => whnf
      repeat' (first
        | (refine NilG.mk fun bn hbn hbx => ?_; conv => whnf)
        | (refine Both.mk ?_ ?_ <;> conv => whnf)
        | ((first | (refine MkG.box 1 rfl rfl rfl (by decide) ?_) | (refine MkG.box 2 rfl rfl rfl (by decide) ?_) | (refine MkG.box 3 rfl rfl rfl (by decide) ?_) | (refine MkG.row ?_)); conv => whnf)
        | (refine LitG.row ?_; conv => whnf)
        | exact trivial
        | (refine Br.mk (fun hb => ?_) (fun hb => ?_) <;> (first | (exfalso; revert hb; decide) | ((try simp only [BL] at hb) <;> (try simp only [DL] at hb) <;> (first | (exfalso; omega) | (conv => whnf)))))
        | (refine And.intro ?_ ?_; (focus (first | exact id | exact rfl | exact trivial | (intro hg; first | exact hg | exact rfl | (simp; done) | (simp at hg ⊢; assumption)) | omega | decide | exact is2_c _ _ _ | exact is1_c _ _ | exact isS_c _ _ | exact isB_c _ _ | exact Nat.le_refl _ | assumption | exact mulLe (by decide) (by omega) | exact mulLe2 (by decide) (by omega) (by omega) | (intros; simp only [BL] at *; omega) | (intros; (try simp only [BL] at *); (try simp only [DL] at *); omega) | (intros; simp only [BL] at *; rw [wr_id (by omega) (by omega)]; omega) | (intro h1 h2; exact Bool.and_eq_true_iff.2 ⟨h1, h2⟩) | (intros; simp_all; done))); conv => whnf)
        | (refine Or.inr (And.intro rfl ?_); first | (refine congrArg intV ?_) | (refine congrArg boolV ?_) | (refine tupII ?_ ?_) | (refine tupIII ?_ ?_ ?_) | (refine tupU ?_ ?_ ?_ ?_ ?_) | exact rfl))
      refine ⟨(y, z), [], ⟨hst.trans hg, hy, Nat.le_trans (Nat.le_of_lt hlt) hy⟩, hlt, ?_⟩
      refine Sub.of ?_ ?_ ?_
      repeat' (first | (refine And.intro ?_ ?_) | exact trivial | exact fun _ _ _ => hsc _ _ | (exact congrArg intV (by first | with_reducible rfl | with_reducible assumption)) | exact (rfl : AV.idsLt _ _ = true) | exact (rfl : _ = AV.ren _ (.own _)) | exact (rfl : _ = AV.ren _ (.fn _ _)) | exact (rfl : _ = AV.ren _ (.gh _)) | (exact congrArg intV (by assumption)) | (refine congrArg intV ((wr_id (by omega) (by omega)).trans (by omega))) | exact rfl | (simp only [NLc]; first | exact rfl | done) | exact all0 | exact fun h => Bool.noConfusion h | exact fun _ _ _ _ => rfl | omega)
end Go.Proofs.YtjfnhehjhicnoaaDoor
