/-
  Large numbers: Int.Text.
-/
import Derived.Test.YtjfnhehjhicnoaaDoorLgW
import Derived.Test.YtjfnhehjhicnoaaDoorLgG
namespace Go.Proofs.YtjfnhehjhicnoaaDoor
open Go.RowKit

abbrev Dm : Nat := 1000000000
/-- part j of a number -/
def prt (A j : Nat) : Nat := A / 1000000000 ^ j % 1000000000
def cP (A : Nat) : Nat → Nat → L := fun k _ => .v (.int .u32 ((prt A k : Nat) : Int))
theorem D_pos (k : Nat) : 0 < 1000000000 ^ k := Nat.pow_pos (by decide)
theorem D_step (A k : Nat) : A / 1000000000 ^ k / 1000000000 = A / 1000000000 ^ (k + 1) := by rw [Nat.div_div_eq_div_mul, ← Nat.pow_succ]
theorem D_bnd {A k : Nat} (h : 1000000000 ^ k ≤ A) (hA : A < 1000000000 ^ 20) : k < 20 := by
  have := Nat.lt_of_le_of_lt h hA
  exact (Nat.pow_lt_pow_iff_right (by decide)).1 this
/-- so many zeros -/
def zrs (n : Nat) : ByteArray := ⟨Array.replicate n 48⟩
theorem zrs_succ (n : Nat) : zrs n ++ ⟨#[48]⟩ = zrs (n + 1) := by
  apply ByteArray.ext
  rw [ByteArray.data_append]
  show Array.replicate n 48 ++ #[48] = Array.replicate (n + 1) 48
  rw [Array.replicate_succ]
  rfl
theorem app_assoc (a b c : ByteArray) : a ++ b ++ c = a ++ (b ++ c) := by
  apply ByteArray.ext
  simp only [ByteArray.data_append, Array.append_assoc]
theorem empty_app (a : ByteArray) : zrs 0 ++ a = a := by
  apply ByteArray.ext
  rw [ByteArray.data_append]
  show (#[] : Array UInt8) ++ a.data = a.data
  simp
/-- a number's last k digits -/
def pdk : Nat → Nat → ByteArray
  | 0, _ => zrs 0
  | k + 1, x => pdk k (x / 10) ++ decB (x % 10)
theorem app_zrs0 (a : ByteArray) : a ++ zrs 0 = a := by
  apply ByteArray.ext
  rw [ByteArray.data_append]
  show a.data ++ (#[] : Array UInt8) = a.data
  simp
theorem dec_pdk {y : Nat} (hy : 0 < y) : ∀ (k x : Nat), x < 10 ^ k → decB (y * 10 ^ k + x) = decB y ++ pdk k x
  | 0, x, h => by
    obtain rfl : x = 0 := by simpa using h
    rw [Nat.pow_zero, Nat.mul_one, Nat.add_zero, pdk, app_zrs0]
  | k + 1, x, h => by
    rw [Nat.pow_succ] at h ⊢
    have hp : 0 < 10 ^ k := Nat.pow_pos (by decide)
    have h1 : y * (10 ^ k * 10) = y * 10 ^ k * 10 := (Nat.mul_assoc ..).symm
    have h2 : 0 < y * 10 ^ k := Nat.mul_pos hy hp
    rw [h1, ← decB_ge (u := y * 10 ^ k * 10 + x) (by omega), show (y * 10 ^ k * 10 + x) / 10 = y * 10 ^ k + x / 10 by omega, show (y * 10 ^ k * 10 + x) % 10 = x % 10 by omega, dec_pdk hy k (x / 10) (by omega), app_assoc]
    rfl
theorem pdk_zero : ∀ k, pdk k 0 = zrs k
  | 0 => rfl
  | k + 1 => by
    rw [pdk, Nat.zero_div, pdk_zero k, ← zrs_succ, Nat.zero_mod, decB_lt (by decide)]
    rfl
theorem dec_size1 {x : Nat} (h : x < 10) : (decB x).size = 1 := by rw [decB_lt h]; rfl
theorem dec_size10 {x : Nat} (h : ¬ x < 10) : (decB x).size = (decB (x / 10)).size + 1 := by
  rw [← decB_ge h, ByteArray.size_append, dec_size1 (Nat.mod_lt _ (by decide))]
theorem dec_pos {x : Nat} : 0 < (decB x).size := by
  by_cases h : x < 10
  · rw [dec_size1 h]; decide
  · rw [dec_size10 h]; omega
theorem pdk_eq : ∀ (k x : Nat), 0 < k → x < 10 ^ k → pdk k x = zrs (k - (decB x).size) ++ decB x
  | 0, x, h, _ => absurd h (by decide)
  | k + 1, x, _, h => by
    by_cases h10 : x < 10
    · rw [pdk, Nat.div_eq_of_lt h10, Nat.mod_eq_of_lt h10, pdk_zero, dec_size1 h10]
      rfl
    · have hk : 0 < k := by
        rcases Nat.eq_zero_or_pos k with rfl | hk
        · rw [Nat.pow_succ, Nat.pow_zero] at h; omega
        · exact hk
      rw [Nat.pow_succ] at h
      rw [pdk, pdk_eq k (x / 10) hk (by omega), app_assoc, decB_ge h10, dec_size10 h10]
      congr 2
      omega
theorem nine : ∀ z, z ≤ 9 → (⟨#[48, 48, 48, 48, 48, 48, 48, 48, 48]⟩ : ByteArray).extract z 9 = zrs (9 - z) := by decide
/-- a part with its zeros -/
def pd9 (x : Nat) : ByteArray := (⟨#[48, 48, 48, 48, 48, 48, 48, 48, 48]⟩ : ByteArray).extract (decB x).size 9 ++ decB x
theorem dec_pd9 {X : Nat} (h : 0 < X / 1000000000) : decB X = decB (X / 1000000000) ++ pd9 (X % 1000000000) := by
  have hx : X % 1000000000 < 10 ^ 9 := Nat.mod_lt _ (by decide)
  have h1 := dec_pdk h 9 (X % 1000000000) hx
  have h2 : X / 1000000000 * 10 ^ 9 + X % 1000000000 = X := by
    have := Nat.div_add_mod X 1000000000
    omega
  rw [h2, pdk_eq 9 _ (by decide) hx] at h1
  rw [h1]
  unfold pd9
  rw [nine _ (decB_size (k := 8) hx)]
/-- what is written when the parts from i on are done -/
def txL (A k i : Nat) : List UInt8 := if i = k then [] else (decB (A / 1000000000 ^ i)).data.toList
theorem tx_pad {A k i : Nat} (hi : i + 1 < k) (h : 0 < A / 1000000000 ^ (i + 1)) : txL A k (i + 1) ++ ((⟨#[48, 48, 48, 48, 48, 48, 48, 48, 48]⟩ : ByteArray).extract (decB (prt A i)).size 9).data.toList ++ (decB (prt A i)).data.toList = txL A k i := by
  unfold txL
  rw [if_neg (by omega), if_neg (by omega), dec_pd9 (X := A / 1000000000 ^ i) (by rw [D_step]; exact h), D_step]
  unfold pd9
  simp only [ByteArray.data_append, Array.toList_append, List.append_assoc]
  rfl
theorem tx_top {A i : Nat} (h : A / 1000000000 ^ (i + 1) = 0) : txL A (i + 1) (i + 1) ++ (decB (prt A i)).data.toList = txL A (i + 1) i := by
  unfold txL prt
  rw [if_pos rfl, if_neg (by omega), List.nil_append, Nat.mod_eq_of_lt]
  rw [← D_step] at h
  omega
theorem tx_len {A k i : Nat} (hA : A < 1000000000 ^ 20) : (txL A k i).length ≤ 180 := by
  unfold txL
  split
  · exact Nat.zero_le _
  · rw [Array.length_toList]
    exact decB_size (k := 179) (Nat.lt_of_le_of_lt (Nat.div_le_self _ _) (Nat.lt_of_lt_of_le hA (by decide +kernel)))
set_option maxHeartbeats 8000000 in
theorem lgText0 (m : Bool) (A : Nat) (hA0 : 0 < A) (hA : A < 1000000000 ^ 20) (hl : wl A ≤ 100) : FnT Tryd.prog pwG pwC 94 [.agg (igA m A)] (fun obs r => obs = [] ∧ r = .tup [strV (if m then ⟨#[45]⟩ ++ decB A else decB A), boolV true]) := by
  refine fnT_of_wpx (O := lex) tab_ok gamLg_ok mixed Tryd.func94 (by kernel_rfl) rfl rfl rfl (by simp [Tryd.ntmps94]) (by kernel_rfl) ?_
  have hl0 := wl_pos.2 hA0
  unfold igA
  conv => whnf
  repeat' (first
    | (refine NilG.mk fun bn hbn hbx => ?_; conv => whnf)
    | (refine Both.mk ?_ ?_ <;> conv => whnf)
    | ((first | (refine MkG.box 1 rfl rfl rfl (by decide) ?_) | (refine MkG.box 2 rfl rfl rfl (by decide) ?_) | (refine MkG.box 3 rfl rfl rfl (by decide) ?_) | (refine MkG.row ?_)); conv => whnf)
    | (refine LitG.row ?_; conv => whnf)
    | exact trivial
    | (refine Br.mk (fun hb => ?_) (fun hb => ?_) <;> (first | (exfalso; revert hb; decide) | ((try simp only [BL] at hb) <;> (try simp only [DL] at hb) <;> (first | (exfalso; omega) | (conv => whnf)))))
    | (refine And.intro ?_ ?_; (focus (first | exact id | exact rfl | exact trivial | (intro hg; first | exact hg | exact rfl | (simp; done) | (simp at hg ⊢; assumption)) | omega | decide | exact is2_c _ _ _ | exact is1_c _ _ | exact isS_c _ _ | exact isB_c _ _ | exact Nat.le_refl _ | assumption | exact mulLe (by decide) (by omega) | exact mulLe2 (by decide) (by omega) (by omega) | (intros; simp only [BL] at *; omega) | (intros; (try simp only [BL] at *); (try simp only [DL] at *); omega) | (intros; simp only [BL] at *; rw [wr_id (by omega) (by omega)]; omega) | (intro h1 h2; exact Bool.and_eq_true_iff.2 ⟨h1, h2⟩) | (intros; simp_all; done))); conv => whnf)
    | (refine Or.inr (And.intro rfl ?_); first | (refine congrArg intV ?_) | (refine congrArg boolV ?_) | (refine tupII ?_ ?_) | (refine tupIII ?_ ?_ ?_) | (refine tupU ?_ ?_ ?_ ?_ ?_) | exact rfl))
  refine LoopG.nil 4 137 1 rfl ?_
  refine sem_loop tab_ok gamLg_ok mixed (by kernel_rfl) (O := lex) (fun k : Nat => ⟨[(1, .lp 0 0), (4, .own 1), (5, wdN (A / 1000000000 ^ k)), (1000000, .gt pwG pwC)], [.box [boolV m, wdN A], .row 137 1 k false (cP A)]⟩) (fun k => k = 0 ∨ 1000000000 ^ (k - 1) ≤ A) (fun k => A / 1000000000 ^ k) ⟨0, [?_, ?_], .inl rfl, ?_⟩ fun k hk => ?_
  rotate_left 2
  · refine Sub.of ?_ ?_ ?_
    repeat' (first | (refine And.intro ?_ ?_) | exact trivial | exact fun _ _ _ => hsc _ _ | (exact congrArg intV (by first | with_reducible rfl | with_reducible assumption)) | exact (rfl : AV.idsLt _ _ = true) | exact (rfl : _ = AV.ren _ (.own _)) | exact (rfl : _ = AV.ren _ (.fn _ _)) | exact (rfl : _ = AV.ren _ (.gh _)) | (exact congrArg intV (by assumption)) | (refine congrArg intV ((wr_id (by omega) (by omega)).trans (by omega))) | exact rfl | (simp only [NLc]; first | exact rfl | done) | exact all0 | exact fun h => Bool.noConfusion h | exact fun _ _ _ _ => rfl | omega)
    exact (congrArg (fun X : Nat => wdN X) (show A = A / 1000000000 ^ 0 by rw [Nat.pow_zero, Nat.div_one]) : _)
  have hkb : k ≤ 20 := by
    rcases hk with rfl | hk
    · decide
    · have := D_bnd hk hA
      omega
  have hXl : wl (A / 1000000000 ^ k) ≤ 100 := Nat.le_trans (wl_mono (Nat.div_le_self _ _)) hl
  conv => whnf
  repeat' (first
    | (refine NilG.mk fun bn hbn hbx => ?_; conv => whnf)
    | (refine Both.mk ?_ ?_ <;> conv => whnf)
    | ((first | (refine MkG.box 1 rfl rfl rfl (by decide) ?_) | (refine MkG.box 2 rfl rfl rfl (by decide) ?_) | (refine MkG.box 3 rfl rfl rfl (by decide) ?_) | (refine MkG.row ?_)); conv => whnf)
    | (refine LitG.row ?_; conv => whnf)
    | exact trivial
    | (refine Br.mk (fun hb => ?_) (fun hb => ?_) <;> (first | (exfalso; revert hb; decide) | ((try simp only [BL] at hb) <;> (try simp only [DL] at hb) <;> (first | (exfalso; omega) | (conv => whnf)))))
    | (refine And.intro ?_ ?_; (focus (first | exact id | exact rfl | exact trivial | (intro hg; first | exact hg | exact rfl | (simp; done) | (simp at hg ⊢; assumption)) | omega | decide | exact is2_c _ _ _ | exact is1_c _ _ | exact isS_c _ _ | exact isB_c _ _ | exact Nat.le_refl _ | assumption | exact mulLe (by decide) (by omega) | exact mulLe2 (by decide) (by omega) (by omega) | (intros; simp only [BL] at *; omega) | (intros; (try simp only [BL] at *); (try simp only [DL] at *); omega) | (intros; simp only [BL] at *; rw [wr_id (by omega) (by omega)]; omega) | (intro h1 h2; exact Bool.and_eq_true_iff.2 ⟨h1, h2⟩) | (intros; simp_all; done))); conv => whnf)
    | (refine Or.inr (And.intro rfl ?_); first | (refine congrArg intV ?_) | (refine congrArg boolV ?_) | (refine tupII ?_ ?_) | (refine tupIII ?_ ?_ ?_) | (refine tupU ?_ ?_ ?_ ?_ ?_) | exact rfl))
  · have hX0 : 0 < A / 1000000000 ^ k := wl_pos.1 (by omega)
    have hXA : 1000000000 ^ k ≤ A := by
      rcases Nat.lt_or_ge A (1000000000 ^ k) with h | h
      · rw [Nat.div_eq_of_lt h] at hX0; omega
      · exact h
    have hk20 := D_bnd hXA hA
    refine CallC.mk (Fn.mono (lgShort (wl (A / 1000000000 ^ k)) (A / 1000000000 ^ k) 1000000000 (by omega) wl_lt (by decide) (by decide)) ?_)
    rintro obs r ⟨rfl, rfl⟩
    have hlt : A / 1000000000 ^ (k + 1) < A / 1000000000 ^ k := by
      rw [← D_step]
      exact Nat.div_lt_self hX0 (by decide)
    rw [D_step]
    conv => whnf
    repeat' (first
      | (refine NilG.mk fun bn hbn hbx => ?_; conv => whnf)
      | (refine Both.mk ?_ ?_ <;> conv => whnf)
      | ((first | (refine MkG.box 1 rfl rfl rfl (by decide) ?_) | (refine MkG.box 2 rfl rfl rfl (by decide) ?_) | (refine MkG.box 3 rfl rfl rfl (by decide) ?_) | (refine MkG.row ?_)); conv => whnf)
      | (refine LitG.row ?_; conv => whnf)
      | exact trivial
      | (refine Br.mk (fun hb => ?_) (fun hb => ?_) <;> (first | (exfalso; revert hb; decide) | ((try simp only [BL] at hb) <;> (try simp only [DL] at hb) <;> (first | (exfalso; omega) | (conv => whnf)))))
      | (refine And.intro ?_ ?_; (focus (first | exact id | exact rfl | exact trivial | (intro hg; first | exact hg | exact rfl | (simp; done) | (simp at hg ⊢; assumption)) | omega | decide | exact is2_c _ _ _ | exact is1_c _ _ | exact isS_c _ _ | exact isB_c _ _ | exact Nat.le_refl _ | assumption | exact mulLe (by decide) (by omega) | exact mulLe2 (by decide) (by omega) (by omega) | (intros; simp only [BL] at *; omega) | (intros; (try simp only [BL] at *); (try simp only [DL] at *); omega) | (intros; simp only [BL] at *; rw [wr_id (by omega) (by omega)]; omega) | (intro h1 h2; exact Bool.and_eq_true_iff.2 ⟨h1, h2⟩) | (intros; simp_all; done))); conv => whnf)
      | (refine Or.inr (And.intro rfl ?_); first | (refine congrArg intV ?_) | (refine congrArg boolV ?_) | (refine tupII ?_ ?_) | (refine tupIII ?_ ?_ ?_) | (refine tupU ?_ ?_ ?_ ?_ ?_) | exact rfl))
    refine CallC.mk (Fn.mono (lgNorm false (wl (A / 1000000000 ^ k)) (A / 1000000000 ^ (k + 1)) (Nat.lt_trans hlt wl_lt) (by omega)) ?_)
    rintro obs r ⟨rfl, rfl⟩
    unfold igA
    conv => whnf
    repeat' (first
      | (refine NilG.mk fun bn hbn hbx => ?_; conv => whnf)
      | (refine Both.mk ?_ ?_ <;> conv => whnf)
      | ((first | (refine MkG.box 1 rfl rfl rfl (by decide) ?_) | (refine MkG.box 2 rfl rfl rfl (by decide) ?_) | (refine MkG.box 3 rfl rfl rfl (by decide) ?_) | (refine MkG.row ?_)); conv => whnf)
      | (refine LitG.row ?_; conv => whnf)
      | exact trivial
      | (refine Br.mk (fun hb => ?_) (fun hb => ?_) <;> (first | (exfalso; revert hb; decide) | ((try simp only [BL] at hb) <;> (try simp only [DL] at hb) <;> (first | (exfalso; omega) | (conv => whnf)))))
      | (refine And.intro ?_ ?_; (focus (first | exact id | exact rfl | exact trivial | (intro hg; first | exact hg | exact rfl | (simp; done) | (simp at hg ⊢; assumption)) | omega | decide | exact is2_c _ _ _ | exact is1_c _ _ | exact isS_c _ _ | exact isB_c _ _ | exact Nat.le_refl _ | assumption | exact mulLe (by decide) (by omega) | exact mulLe2 (by decide) (by omega) (by omega) | (intros; simp only [BL] at *; omega) | (intros; (try simp only [BL] at *); (try simp only [DL] at *); omega) | (intros; simp only [BL] at *; rw [wr_id (by omega) (by omega)]; omega) | (intro h1 h2; exact Bool.and_eq_true_iff.2 ⟨h1, h2⟩) | (intros; simp_all; done))); conv => whnf)
      | (refine Or.inr (And.intro rfl ?_); first | (refine congrArg intV ?_) | (refine congrArg boolV ?_) | (refine tupII ?_ ?_) | (refine tupIII ?_ ?_ ?_) | (refine tupU ?_ ?_ ?_ ?_ ?_) | exact rfl))
    refine ⟨k + 1, [?_, ?_], .inr hXA, hlt, ?_⟩
    rotate_left 2
    refine Sub.of ?_ ?_ ?_
    repeat' (first | (refine And.intro ?_ ?_) | exact trivial | exact fun _ _ _ => hsc _ _ | (exact congrArg intV (by first | with_reducible rfl | with_reducible assumption)) | exact (rfl : AV.idsLt _ _ = true) | exact (rfl : _ = AV.ren _ (.own _)) | exact (rfl : _ = AV.ren _ (.fn _ _)) | exact (rfl : _ = AV.ren _ (.gh _)) | (exact congrArg intV (by assumption)) | (refine congrArg intV ((wr_id (by omega) (by omega)).trans (by omega))) | exact rfl | (simp only [NLc]; first | exact rfl | done) | exact all0 | exact fun h => Bool.noConfusion h | exact fun _ _ _ _ => rfl | omega)
    intro aq haq bq hbq
    by_cases hltq : aq < k
    · exact if_pos hltq
    · obtain rfl : aq = k := by omega
      refine (if_neg hltq).trans ?_
      rw [Nat.sub_self]
      revert bq hbq
      refine all1 rfl
  · have hX0 : A / 1000000000 ^ k = 0 := wl_eq0.1 (by omega)
    have hk0 : 0 < k := by
      rcases Nat.eq_zero_or_pos k with rfl | h
      · rw [Nat.pow_zero, Nat.div_one] at hX0; omega
      · exact h
    refine BldG.mk 5 fun b => ?_
    have htop : txL A k k = [] := if_pos rfl
    conv => whnf
    repeat' (first
      | (refine NilG.mk fun bn hbn hbx => ?_; conv => whnf)
      | (refine Both.mk ?_ ?_ <;> conv => whnf)
      | ((first | (refine MkG.box 1 rfl rfl rfl (by decide) ?_) | (refine MkG.box 2 rfl rfl rfl (by decide) ?_) | (refine MkG.box 3 rfl rfl rfl (by decide) ?_) | (refine MkG.row ?_)); conv => whnf)
      | (refine LitG.row ?_; conv => whnf)
      | exact trivial
      | (refine Br.mk (fun hb => ?_) (fun hb => ?_) <;> (first | (exfalso; revert hb; decide) | ((try simp only [BL] at hb) <;> (try simp only [DL] at hb) <;> (first | (exfalso; omega) | (conv => whnf)))))
      | (refine And.intro ?_ ?_; (focus (first | exact id | exact rfl | exact trivial | (intro hg; first | exact hg | exact rfl | (simp; done) | (simp at hg ⊢; assumption)) | omega | decide | exact is2_c _ _ _ | exact is1_c _ _ | exact isS_c _ _ | exact isB_c _ _ | exact Nat.le_refl _ | assumption | exact mulLe (by decide) (by omega) | exact mulLe2 (by decide) (by omega) (by omega) | (intros; simp only [BL] at *; omega) | (intros; (try simp only [BL] at *); (try simp only [DL] at *); omega) | (intros; simp only [BL] at *; rw [wr_id (by omega) (by omega)]; omega) | (intro h1 h2; exact Bool.and_eq_true_iff.2 ⟨h1, h2⟩) | (intros; simp_all; done))); conv => whnf)
      | (refine Or.inr (And.intro rfl ?_); first | (refine congrArg intV ?_) | (refine congrArg boolV ?_) | (refine tupII ?_ ?_) | (refine tupIII ?_ ?_ ?_) | (refine tupU ?_ ?_ ?_ ?_ ?_) | exact rfl))
    refine sem_loop tab_ok gamLg_ok mixed (by kernel_rfl) (O := lex) (fun i : Nat => ⟨[(1, .lp 0 0), (4, .own 1), (8, .c (.v (ptB b))), (9, intV ((i : Int) - 1)), (1000000, .gt pwG pwC)], [.box [boolV m, wdN A], .row 137 1 k false (cP A), bdO b (txL A k i)]⟩) (fun i => i ≤ k) (fun i => i) ⟨k, [0, 1, 2], Nat.le_refl _, ?_⟩ fun i hi => ?_
    · refine Sub.of ?_ ?_ ?_
      repeat' (first | (refine And.intro ?_ ?_) | exact trivial | exact fun _ _ _ => hsc _ _ | (exact congrArg intV (by first | with_reducible rfl | with_reducible assumption)) | exact (rfl : AV.idsLt _ _ = true) | exact (rfl : _ = AV.ren _ (.own _)) | exact (rfl : _ = AV.ren _ (.fn _ _)) | exact (rfl : _ = AV.ren _ (.gh _)) | (exact congrArg intV (by assumption)) | (refine congrArg intV ((wr_id (by omega) (by omega)).trans (by omega))) | exact rfl | (simp only [NLc]; first | exact rfl | done) | exact all0 | exact fun h => Bool.noConfusion h | exact fun _ _ _ _ => rfl | omega)
      exact htop.symm
    have hAk : ∀ j, j < k → 0 < A / 1000000000 ^ j := fun j hj => by
      rcases hk with rfl | hk
      · omega
      · have h1 : 1000000000 ^ j ≤ 1000000000 ^ (k - 1) := Nat.pow_le_pow_right (by decide) (by omega)
        exact Nat.div_pos (Nat.le_trans h1 hk) (D_pos j)
    have hsA : (decB A).size ≤ 180 := decB_size (k := 179) (Nat.lt_of_lt_of_le hA (by decide +kernel))
    rcases Nat.eq_zero_or_pos i with rfl | hp
    · have ht0 : txL A k 0 = (decB A).data.toList := by
        unfold txL
        rw [if_neg (by omega), Nat.pow_zero, Nat.div_one]
      have hBA : (⟨(decB A).data.toList.toArray⟩ : ByteArray) = decB A := by rw [Array.toArray_toList]
      rw [ht0]
      conv => whnf
      repeat' (first
        | (refine NilG.mk fun bn hbn hbx => ?_; conv => whnf)
        | (refine Both.mk ?_ ?_ <;> conv => whnf)
        | ((first | (refine MkG.box 1 rfl rfl rfl (by decide) ?_) | (refine MkG.box 2 rfl rfl rfl (by decide) ?_) | (refine MkG.box 3 rfl rfl rfl (by decide) ?_) | (refine MkG.row ?_)); conv => whnf)
        | (refine LitG.row ?_; conv => whnf)
        | exact trivial
        | (refine Br.mk (fun hb => ?_) (fun hb => ?_) <;> (first | (exfalso; revert hb; decide) | ((try simp only [BL] at hb) <;> (try simp only [DL] at hb) <;> (first | (exfalso; omega) | (conv => whnf)))))
        | (refine And.intro ?_ ?_; (focus (first | exact id | exact rfl | exact trivial | (intro hg; first | exact hg | exact rfl | (simp; done) | (simp at hg ⊢; assumption)) | omega | decide | exact is2_c _ _ _ | exact is1_c _ _ | exact isS_c _ _ | exact isB_c _ _ | exact Nat.le_refl _ | assumption | exact mulLe (by decide) (by omega) | exact mulLe2 (by decide) (by omega) (by omega) | (intros; simp only [BL] at *; omega) | (intros; (try simp only [BL] at *); (try simp only [DL] at *); omega) | (intros; simp only [BL] at *; rw [wr_id (by omega) (by omega)]; omega) | (intro h1 h2; exact Bool.and_eq_true_iff.2 ⟨h1, h2⟩) | (intros; simp_all; done))); conv => whnf)
        | (refine Or.inr (And.intro rfl ?_); first | (refine congrArg intV ?_) | (refine congrArg boolV ?_) | (refine tupII ?_ ?_) | (refine tupIII ?_ ?_ ?_) | (refine tupU ?_ ?_ ?_ ?_ ?_) | exact rfl))
      refine CallG.wr [2] rfl (FnM.mono (stS b (decB A).data.toList ?_) ?_)
      · intro h
        have h1 := dec_pos (x := A)
        have h2 : (decB A).data.toList.length = (decB A).size := Array.length_toList
        rw [h] at h2
        simp at h2
        omega
      rintro obs r ⟨rfl, rfl⟩
      rw [hBA]
      have hd : decide (((decB A).size : Int) ≤ 2000) = true := decide_eq_true (by omega)
      conv => whnf
      repeat' (first
        | (refine NilG.mk fun bn hbn hbx => ?_; conv => whnf)
        | (refine Both.mk ?_ ?_ <;> conv => whnf)
        | ((first | (refine MkG.box 1 rfl rfl rfl (by decide) ?_) | (refine MkG.box 2 rfl rfl rfl (by decide) ?_) | (refine MkG.box 3 rfl rfl rfl (by decide) ?_) | (refine MkG.row ?_)); conv => whnf)
        | (refine LitG.row ?_; conv => whnf)
        | exact trivial
        | (refine Br.mk (fun hb => ?_) (fun hb => ?_) <;> (first | (exfalso; revert hb; decide) | ((try simp only [BL] at hb) <;> (try simp only [DL] at hb) <;> (first | (exfalso; omega) | (conv => whnf)))))
        | (refine And.intro ?_ ?_; (focus (first | exact id | exact rfl | exact trivial | (intro hg; first | exact hg | exact rfl | (simp; done) | (simp at hg ⊢; assumption)) | omega | decide | exact is2_c _ _ _ | exact is1_c _ _ | exact isS_c _ _ | exact isB_c _ _ | exact Nat.le_refl _ | assumption | exact mulLe (by decide) (by omega) | exact mulLe2 (by decide) (by omega) (by omega) | (intros; simp only [BL] at *; omega) | (intros; (try simp only [BL] at *); (try simp only [DL] at *); omega) | (intros; simp only [BL] at *; rw [wr_id (by omega) (by omega)]; omega) | (intro h1 h2; exact Bool.and_eq_true_iff.2 ⟨h1, h2⟩) | (show _ ≤ maxLen; unfold maxLen; show 1 + _ ≤ _; omega) | (intros; simp_all; done))); conv => whnf)
        | (refine Or.inr (And.intro rfl ?_); first | (refine congrArg intV ?_) | (refine congrArg boolV ?_) | (refine tupII ?_ ?_) | (refine tupIII ?_ ?_ ?_) | (refine tupU ?_ ?_ ?_ ?_ ?_) | exact rfl))
      · refine .inr ⟨rfl, ?_⟩
        rw [if_pos hb]
        exact congrArg (fun z : Bool => AV.tup [strV (⟨#[45]⟩ ++ decB A), boolV z]) hd
      · refine .inr ⟨rfl, ?_⟩
        rw [if_neg (by rw [hb]; exact Bool.noConfusion)]
        exact congrArg (fun z : Bool => AV.tup [strV (decB A), boolV z]) hd
    obtain ⟨i, rfl⟩ : ∃ q, i = q + 1 := ⟨i - 1, by omega⟩
    have e1 : (((i + 1 : Nat) : Int) - 1) = (i : Int) := by omega
    rw [e1]
    have hpl : prt A i < 1000000000 := Nat.mod_lt _ (by decide)
    have w1 : IntKind.u64.wrap ((prt A i : Nat) : Int) = ((prt A i : Nat) : Int) := wr64 (by omega)
    have hsz := decB_size (u := prt A i) (k := 8) (by omega)
    have ek := pred_i (k - 1) (by omega)
    rw [show k - 1 + 1 = k by omega] at ek
    have hs9 : (⟨#[48, 48, 48, 48, 48, 48, 48, 48, 48]⟩ : ByteArray).size = 9 := rfl
    have hln := tx_len (A := A) (k := k) (i := i + 1) hA
    conv => whnf
    repeat' (first
      | (refine NilG.mk fun bn hbn hbx => ?_; conv => whnf)
      | (refine Both.mk ?_ ?_ <;> conv => whnf)
      | ((first | (refine MkG.box 1 rfl rfl rfl (by decide) ?_) | (refine MkG.box 2 rfl rfl rfl (by decide) ?_) | (refine MkG.box 3 rfl rfl rfl (by decide) ?_) | (refine MkG.row ?_)); conv => whnf)
      | (refine LitG.row ?_; conv => whnf)
      | exact trivial
      | (refine Br.mk (fun hb => ?_) (fun hb => ?_) <;> (first | (exfalso; revert hb; decide) | ((try simp only [BL] at hb) <;> (try simp only [DL] at hb) <;> (first | (exfalso; omega) | (conv => whnf)))))
      | (refine And.intro ?_ ?_; (focus (first | exact id | exact rfl | exact trivial | (intro hg; first | exact hg | exact rfl | (simp; done) | (simp at hg ⊢; assumption)) | omega | decide | exact is2_c _ _ _ | exact is1_c _ _ | exact isS_c _ _ | exact isB_c _ _ | exact Nat.le_refl _ | assumption | exact mulLe (by decide) (by omega) | exact mulLe2 (by decide) (by omega) (by omega) | (intros; simp only [BL] at *; omega) | (intros; (try simp only [BL] at *); (try simp only [DL] at *); omega) | (intros; simp only [BL] at *; rw [wr_id (by omega) (by omega)]; omega) | (intro h1 h2; exact Bool.and_eq_true_iff.2 ⟨h1, h2⟩) | (intros; simp_all; done))); conv => whnf)
      | (refine Or.inr (And.intro rfl ?_); first | (refine congrArg intV ?_) | (refine congrArg boolV ?_) | (refine tupII ?_ ?_) | (refine tupIII ?_ ?_ ?_) | (refine tupU ?_ ?_ ?_ ?_ ?_) | exact rfl))
    rw [Int.toNat_natCast, w1]
    refine CallG.tb 1000000 rfl (FnT.mono (fmtU (prt A i) (by omega)) ?_)
    rintro obs r ⟨rfl, rfl⟩
    conv => whnf
    repeat' (first
      | (refine NilG.mk fun bn hbn hbx => ?_; conv => whnf)
      | (refine Both.mk ?_ ?_ <;> conv => whnf)
      | ((first | (refine MkG.box 1 rfl rfl rfl (by decide) ?_) | (refine MkG.box 2 rfl rfl rfl (by decide) ?_) | (refine MkG.box 3 rfl rfl rfl (by decide) ?_) | (refine MkG.row ?_)); conv => whnf)
      | (refine LitG.row ?_; conv => whnf)
      | exact trivial
      | (refine Br.mk (fun hb => ?_) (fun hb => ?_) <;> (first | (exfalso; revert hb; decide) | ((try simp only [BL] at hb) <;> (try simp only [DL] at hb) <;> (first | (exfalso; omega) | (conv => whnf)))))
      | (refine And.intro ?_ ?_; (focus (first | exact id | exact rfl | exact trivial | (intro hg; first | exact hg | exact rfl | (simp; done) | (simp at hg ⊢; assumption)) | omega | decide | exact is2_c _ _ _ | exact is1_c _ _ | exact isS_c _ _ | exact isB_c _ _ | exact Nat.le_refl _ | assumption | exact mulLe (by decide) (by omega) | exact mulLe2 (by decide) (by omega) (by omega) | (intros; simp only [BL] at *; omega) | (intros; (try simp only [BL] at *); (try simp only [DL] at *); omega) | (intros; simp only [BL] at *; rw [wr_id (by omega) (by omega)]; omega) | (intro h1 h2; exact Bool.and_eq_true_iff.2 ⟨h1, h2⟩) | (intros; simp_all; done))); conv => whnf)
      | (refine Or.inr (And.intro rfl ?_); first | (refine congrArg intV ?_) | (refine congrArg boolV ?_) | (refine tupII ?_ ?_) | (refine tupIII ?_ ?_ ?_) | (refine tupU ?_ ?_ ?_ ?_ ?_) | exact rfl))
    · rw [hs9]
      simp only [Int.toNat_natCast]
      have hpz : ((⟨#[48, 48, 48, 48, 48, 48, 48, 48, 48]⟩ : ByteArray).extract (decB (prt A i)).size 9).size ≤ 9 := by
        rw [nine _ hsz]
        show (Array.replicate _ _).size ≤ 9
        rw [Array.size_replicate]
        omega
      refine CallG.wr [2] rfl (FnM.mono (wrS b _ _ (by omega)) ?_)
      rintro obs r ⟨rfl, rfl⟩
      conv => whnf
      repeat' (first
        | (refine NilG.mk fun bn hbn hbx => ?_; conv => whnf)
        | (refine Both.mk ?_ ?_ <;> conv => whnf)
        | ((first | (refine MkG.box 1 rfl rfl rfl (by decide) ?_) | (refine MkG.box 2 rfl rfl rfl (by decide) ?_) | (refine MkG.box 3 rfl rfl rfl (by decide) ?_) | (refine MkG.row ?_)); conv => whnf)
        | (refine LitG.row ?_; conv => whnf)
        | exact trivial
        | (refine Br.mk (fun hb => ?_) (fun hb => ?_) <;> (first | (exfalso; revert hb; decide) | ((try simp only [BL] at hb) <;> (try simp only [DL] at hb) <;> (first | (exfalso; omega) | (conv => whnf)))))
        | (refine And.intro ?_ ?_; (focus (first | exact id | exact rfl | exact trivial | (intro hg; first | exact hg | exact rfl | (simp; done) | (simp at hg ⊢; assumption)) | omega | decide | exact is2_c _ _ _ | exact is1_c _ _ | exact isS_c _ _ | exact isB_c _ _ | exact Nat.le_refl _ | assumption | exact mulLe (by decide) (by omega) | exact mulLe2 (by decide) (by omega) (by omega) | (intros; simp only [BL] at *; omega) | (intros; (try simp only [BL] at *); (try simp only [DL] at *); omega) | (intros; simp only [BL] at *; rw [wr_id (by omega) (by omega)]; omega) | (intro h1 h2; exact Bool.and_eq_true_iff.2 ⟨h1, h2⟩) | (intros; simp_all; done))); conv => whnf)
        | (refine Or.inr (And.intro rfl ?_); first | (refine congrArg intV ?_) | (refine congrArg boolV ?_) | (refine tupII ?_ ?_) | (refine tupIII ?_ ?_ ?_) | (refine tupU ?_ ?_ ?_ ?_ ?_) | exact rfl))
      refine CallG.wr [3] rfl (FnM.mono (wrS b _ _ ?_) ?_)
      · rw [List.length_append, Array.length_toList]
        show (txL A k (i + 1)).length + ((⟨#[48, 48, 48, 48, 48, 48, 48, 48, 48]⟩ : ByteArray).extract (decB (prt A i)).size 9).size + (decB (prt A i)).size ≤ 1000000
        omega
      rintro obs r ⟨rfl, rfl⟩
      have htx := tx_pad (A := A) (k := k) (i := i) (by omega) (hAk (i + 1) (by omega))
      rw [htx]
      conv => whnf
      repeat' (first
        | (refine NilG.mk fun bn hbn hbx => ?_; conv => whnf)
        | (refine Both.mk ?_ ?_ <;> conv => whnf)
        | ((first | (refine MkG.box 1 rfl rfl rfl (by decide) ?_) | (refine MkG.box 2 rfl rfl rfl (by decide) ?_) | (refine MkG.box 3 rfl rfl rfl (by decide) ?_) | (refine MkG.row ?_)); conv => whnf)
        | (refine LitG.row ?_; conv => whnf)
        | exact trivial
        | (refine Br.mk (fun hb => ?_) (fun hb => ?_) <;> (first | (exfalso; revert hb; decide) | ((try simp only [BL] at hb) <;> (try simp only [DL] at hb) <;> (first | (exfalso; omega) | (conv => whnf)))))
        | (refine And.intro ?_ ?_; (focus (first | exact id | exact rfl | exact trivial | (intro hg; first | exact hg | exact rfl | (simp; done) | (simp at hg ⊢; assumption)) | omega | decide | exact is2_c _ _ _ | exact is1_c _ _ | exact isS_c _ _ | exact isB_c _ _ | exact Nat.le_refl _ | assumption | exact mulLe (by decide) (by omega) | exact mulLe2 (by decide) (by omega) (by omega) | (intros; simp only [BL] at *; omega) | (intros; (try simp only [BL] at *); (try simp only [DL] at *); omega) | (intros; simp only [BL] at *; rw [wr_id (by omega) (by omega)]; omega) | (intro h1 h2; exact Bool.and_eq_true_iff.2 ⟨h1, h2⟩) | (intros; simp_all; done))); conv => whnf)
        | (refine Or.inr (And.intro rfl ?_); first | (refine congrArg intV ?_) | (refine congrArg boolV ?_) | (refine tupII ?_ ?_) | (refine tupIII ?_ ?_ ?_) | (refine tupU ?_ ?_ ?_ ?_ ?_) | exact rfl))
      refine ⟨i, [0, 1, 4], by omega, by omega, ?_⟩
      refine Sub.of ?_ ?_ ?_
      repeat' (first | (refine And.intro ?_ ?_) | exact trivial | exact fun _ _ _ => hsc _ _ | (exact congrArg intV (by first | with_reducible rfl | with_reducible assumption)) | exact (rfl : AV.idsLt _ _ = true) | exact (rfl : _ = AV.ren _ (.own _)) | exact (rfl : _ = AV.ren _ (.fn _ _)) | exact (rfl : _ = AV.ren _ (.gh _)) | (exact congrArg intV (by assumption)) | (refine congrArg intV ((wr_id (by omega) (by omega)).trans (by omega))) | exact rfl | (simp only [NLc]; first | exact rfl | done) | exact all0 | exact fun h => Bool.noConfusion h | exact fun _ _ _ _ => rfl | omega)
    · refine CallG.wr [2] rfl (FnM.mono (wrS b _ _ (by omega)) ?_)
      rintro obs r ⟨rfl, rfl⟩
      obtain rfl : k = i + 1 := by omega
      have htx := tx_top hX0
      rw [htx]
      conv => whnf
      repeat' (first
        | (refine NilG.mk fun bn hbn hbx => ?_; conv => whnf)
        | (refine Both.mk ?_ ?_ <;> conv => whnf)
        | ((first | (refine MkG.box 1 rfl rfl rfl (by decide) ?_) | (refine MkG.box 2 rfl rfl rfl (by decide) ?_) | (refine MkG.box 3 rfl rfl rfl (by decide) ?_) | (refine MkG.row ?_)); conv => whnf)
        | (refine LitG.row ?_; conv => whnf)
        | exact trivial
        | (refine Br.mk (fun hb => ?_) (fun hb => ?_) <;> (first | (exfalso; revert hb; decide) | ((try simp only [BL] at hb) <;> (try simp only [DL] at hb) <;> (first | (exfalso; omega) | (conv => whnf)))))
        | (refine And.intro ?_ ?_; (focus (first | exact id | exact rfl | exact trivial | (intro hg; first | exact hg | exact rfl | (simp; done) | (simp at hg ⊢; assumption)) | omega | decide | exact is2_c _ _ _ | exact is1_c _ _ | exact isS_c _ _ | exact isB_c _ _ | exact Nat.le_refl _ | assumption | exact mulLe (by decide) (by omega) | exact mulLe2 (by decide) (by omega) (by omega) | (intros; simp only [BL] at *; omega) | (intros; (try simp only [BL] at *); (try simp only [DL] at *); omega) | (intros; simp only [BL] at *; rw [wr_id (by omega) (by omega)]; omega) | (intro h1 h2; exact Bool.and_eq_true_iff.2 ⟨h1, h2⟩) | (intros; simp_all; done))); conv => whnf)
        | (refine Or.inr (And.intro rfl ?_); first | (refine congrArg intV ?_) | (refine congrArg boolV ?_) | (refine tupII ?_ ?_) | (refine tupIII ?_ ?_ ?_) | (refine tupU ?_ ?_ ?_ ?_ ?_) | exact rfl))
      refine ⟨i, [0, 1, 3], by omega, by omega, ?_⟩
      refine Sub.of ?_ ?_ ?_
      repeat' (first | (refine And.intro ?_ ?_) | exact trivial | exact fun _ _ _ => hsc _ _ | (exact congrArg intV (by first | with_reducible rfl | with_reducible assumption)) | exact (rfl : AV.idsLt _ _ = true) | exact (rfl : _ = AV.ren _ (.own _)) | exact (rfl : _ = AV.ren _ (.fn _ _)) | exact (rfl : _ = AV.ren _ (.gh _)) | (exact congrArg intV (by assumption)) | (refine congrArg intV ((wr_id (by omega) (by omega)).trans (by omega))) | exact rfl | (simp only [NLc]; first | exact rfl | done) | exact all0 | exact fun h => Bool.noConfusion h | exact fun _ _ _ _ => rfl | omega)
end Go.Proofs.YtjfnhehjhicnoaaDoor
