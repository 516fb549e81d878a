/-
  Large numbers: a fraction's text; the reference's Decimal and Text.
-/
import Derived.Test.YtjfnhehjhicnoaaDoorLgY
namespace Go.Proofs.YtjfnhehjhicnoaaDoor
open Go.RowKit

/-- a fraction's text -/
def rT (N : Int) (D : Nat) : ByteArray := if D = 1 then sI N else sI N ++ ⟨#[47]⟩ ++ decB D
theorem dec_one {D : Nat} : decB D = ⟨#[49]⟩ ↔ D = 1 := by
  constructor
  · intro h
    by_cases h10 : D < 10
    · rw [decB_lt h10] at h
      have key : ∀ u, u < 10 → (⟨#[UInt8.ofNat (48 + u)]⟩ : ByteArray) = ⟨#[49]⟩ → u = 1 := by decide
      exact key D h10 h
    · have h1 := dec_size10 h10
      have h2 := dec_pos (x := D / 10)
      rw [h] at h1
      have h3 : (⟨#[49]⟩ : ByteArray).size = 1 := rfl
      omega
  · rintro rfl
    rw [decB_lt (by decide)]
    rfl
theorem sI_nat (D : Nat) : sI (D : Int) = decB D := by
  unfold sI
  rw [if_neg (by omega), Int.natAbs_natCast]
theorem b_eqZ {a b : ByteArray} : (a.toList == b.toList) = true ↔ a = b := by
  rw [beq_iff_eq, ByteArray.toList_eq, ByteArray.toList_eq]
  constructor
  · intro h; exact ByteArray.ext (Array.toList_inj.1 h)
  · intro h; rw [h]
theorem sI_size {N : Int} (h : N.natAbs < 1000000000 ^ 2) : (sI N).size ≤ 19 := by
  have h1 := decB_size (u := N.natAbs) (k := 17) (Nat.lt_of_lt_of_le h (by decide))
  unfold sI
  split
  · rw [ByteArray.size_append]
    show 1 + _ ≤ 19
    omega
  · omega
theorem lgRText (N : Int) (D : Nat) (hN : N.natAbs < 1000000000 ^ 2) (hD : D < 1000000000 ^ 2) : FnT Tryd.prog pwG pwC 69 [.agg (rtA N D)] (fun obs r => obs = [] ∧ r = .tup [strV (rT N D), boolV true]) := by
  refine fnT_of_wpx (O := lex) tab_ok gamLg_ok mixed Tryd.func69 (by kernel_rfl) rfl rfl rfl (by simp [Tryd.ntmps69]) (by kernel_rfl) ?_
  have hb : ∀ x : Nat, x < 1000000000 ^ 2 → x < 1000000000 ^ 20 ∧ wl x ≤ 100 := fun x hx => ⟨Nat.lt_of_lt_of_le hx (by decide +kernel), wl_le.2 (Nat.lt_of_lt_of_le hx (by decide +kernel))⟩
  have hT1 := lgIText N (hb _ hN).1 (hb _ hN).2
  have hT2 := lgIText (D : Int) (by rw [Int.natAbs_natCast]; exact (hb _ hD).1) (by rw [Int.natAbs_natCast]; exact (hb _ hD).2)
  rw [sI_nat] at hT2
  have hs1 := sI_size hN
  have hs2 := decB_size (u := D) (k := 17) (Nat.lt_of_lt_of_le hD (by decide))
  unfold igI igA at hT1 hT2
  unfold rtA igI igA
  conv => whnf
  repeat' (first
    | (refine NilG.mk fun bn hbn hbx => ?_; conv => whnf)
    | (refine Both.mk ?_ ?_ <;> conv => whnf)
    | ((first | (refine MkG.box 1 rfl rfl rfl (by decide) ?_) | (refine MkG.box 2 rfl rfl rfl (by decide) ?_) | (refine MkG.box 3 rfl rfl rfl (by decide) ?_) | (refine MkG.row ?_)); conv => whnf)
    | (refine LitG.row ?_; conv => whnf)
    | exact trivial
    | (refine Br.mk (fun hb => ?_) (fun hb => ?_) <;> (first | (exfalso; revert hb; decide) | ((try simp only [BL] at hb) <;> (try simp only [DL] at hb) <;> (first | (exfalso; omega) | (conv => whnf)))))
    | (refine And.intro ?_ ?_; (focus (first | exact id | exact rfl | exact trivial | (intro hg; first | exact hg | exact rfl | (simp; done) | (simp at hg ⊢; assumption)) | omega | decide | exact is2_c _ _ _ | exact is1_c _ _ | exact isS_c _ _ | exact isB_c _ _ | exact Nat.le_refl _ | assumption | exact mulLe (by decide) (by omega) | exact mulLe2 (by decide) (by omega) (by omega) | (intros; simp only [BL] at *; omega) | (intros; (try simp only [BL] at *); (try simp only [DL] at *); omega) | (intros; simp only [BL] at *; rw [wr_id (by omega) (by omega)]; omega) | (intro h1 h2; exact Bool.and_eq_true_iff.2 ⟨h1, h2⟩) | (intros; simp_all; done))); conv => whnf)
    | (refine Or.inr (And.intro rfl ?_); first | (refine congrArg intV ?_) | (refine congrArg boolV ?_) | (refine tupII ?_ ?_) | (refine tupIII ?_ ?_ ?_) | (refine tupU ?_ ?_ ?_ ?_ ?_) | exact rfl))
  refine CallC.tb 1000000 rfl (FnT.mono hT1 ?_)
  rintro obs r ⟨rfl, rfl⟩
  conv => whnf
  repeat' (first
    | (refine NilG.mk fun bn hbn hbx => ?_; conv => whnf)
    | (refine Both.mk ?_ ?_ <;> conv => whnf)
    | ((first | (refine MkG.box 1 rfl rfl rfl (by decide) ?_) | (refine MkG.box 2 rfl rfl rfl (by decide) ?_) | (refine MkG.box 3 rfl rfl rfl (by decide) ?_) | (refine MkG.row ?_)); conv => whnf)
    | (refine LitG.row ?_; conv => whnf)
    | exact trivial
    | (refine Br.mk (fun hb => ?_) (fun hb => ?_) <;> (first | (exfalso; revert hb; decide) | ((try simp only [BL] at hb) <;> (try simp only [DL] at hb) <;> (first | (exfalso; omega) | (conv => whnf)))))
    | (refine And.intro ?_ ?_; (focus (first | exact id | exact rfl | exact trivial | (intro hg; first | exact hg | exact rfl | (simp; done) | (simp at hg ⊢; assumption)) | omega | decide | exact is2_c _ _ _ | exact is1_c _ _ | exact isS_c _ _ | exact isB_c _ _ | exact Nat.le_refl _ | assumption | exact mulLe (by decide) (by omega) | exact mulLe2 (by decide) (by omega) (by omega) | (intros; simp only [BL] at *; omega) | (intros; (try simp only [BL] at *); (try simp only [DL] at *); omega) | (intros; simp only [BL] at *; rw [wr_id (by omega) (by omega)]; omega) | (intro h1 h2; exact Bool.and_eq_true_iff.2 ⟨h1, h2⟩) | (intros; simp_all; done))); conv => whnf)
    | (refine Or.inr (And.intro rfl ?_); first | (refine congrArg intV ?_) | (refine congrArg boolV ?_) | (refine tupII ?_ ?_) | (refine tupIII ?_ ?_ ?_) | (refine tupU ?_ ?_ ?_ ?_ ?_) | exact rfl))
  refine CallC.tb 1000000 rfl (FnT.mono hT2 ?_)
  rintro obs r ⟨rfl, rfl⟩
  conv => whnf
  repeat' (first
    | (refine NilG.mk fun bn hbn hbx => ?_; conv => whnf)
    | (refine Both.mk ?_ ?_ <;> conv => whnf)
    | ((first | (refine MkG.box 1 rfl rfl rfl (by decide) ?_) | (refine MkG.box 2 rfl rfl rfl (by decide) ?_) | (refine MkG.box 3 rfl rfl rfl (by decide) ?_) | (refine MkG.row ?_)); conv => whnf)
    | (refine LitG.row ?_; conv => whnf)
    | exact trivial
    | (refine Br.mk (fun hb => ?_) (fun hb => ?_) <;> (first | (exfalso; revert hb; decide) | ((try simp only [BL] at hb) <;> (try simp only [DL] at hb) <;> (first | (exfalso; omega) | (conv => whnf)))))
    | (refine And.intro ?_ ?_; (focus (first | exact id | exact rfl | exact trivial | (intro hg; first | exact hg | exact rfl | (simp; done) | (simp at hg ⊢; assumption)) | omega | decide | exact is2_c _ _ _ | exact is1_c _ _ | exact isS_c _ _ | exact isB_c _ _ | exact Nat.le_refl _ | assumption | exact mulLe (by decide) (by omega) | exact mulLe2 (by decide) (by omega) (by omega) | (intros; simp only [BL] at *; omega) | (intros; (try simp only [BL] at *); (try simp only [DL] at *); omega) | (intros; simp only [BL] at *; rw [wr_id (by omega) (by omega)]; omega) | (intro h1 h2; exact Bool.and_eq_true_iff.2 ⟨h1, h2⟩) | (show _ ≤ maxLen; unfold maxLen; simp only [ByteArray.size_append]; show _ + 1 + _ ≤ _; omega) | (show _ ≤ maxLen; unfold maxLen; show _ + 1 ≤ _; omega) | (intros; simp_all; done))); conv => whnf)
    | (refine Or.inr (And.intro rfl ?_); first | (refine congrArg intV ?_) | (refine congrArg boolV ?_) | (refine tupII ?_ ?_) | (refine tupIII ?_ ?_ ?_) | (refine tupU ?_ ?_ ?_ ?_ ?_) | exact rfl))
  · refine .inr ⟨rfl, ?_⟩
    have h1 := dec_one.1 (b_eqZ.1 hb)
    unfold rT
    rw [if_pos h1]
    rfl
  · refine .inr ⟨rfl, ?_⟩
    have h1 : ¬ D = 1 := fun h => by
      rw [b_eqZ.2 (dec_one.2 h)] at hb
      cases hb
    unfold rT
    rw [if_neg h1]
    rfl
theorem fcText (N : Int) (D : Nat) (hN : N.natAbs < 1000000000 ^ 2) (hD : D < 1000000000 ^ 2) : FnT Tryd.prog pwG pwC 47 [.agg (rtA N D)] (fun obs r => obs = [] ∧ r = .tup [strV (rT N D), intV 0]) := by
  refine fnT_of_wpx (O := lex) tab_ok gamLg_ok mixed Tryd.func47 (by kernel_rfl) rfl rfl rfl (by simp [Tryd.ntmps47]) (by kernel_rfl) ?_
  have hT := lgRText N D hN hD
  generalize rT N D = t at *
  unfold rtA igI igA at *
  conv => whnf
  repeat' (first
    | (refine NilG.mk fun bn hbn hbx => ?_; conv => whnf)
    | (refine Both.mk ?_ ?_ <;> conv => whnf)
    | ((first | (refine MkG.box 1 rfl rfl rfl (by decide) ?_) | (refine MkG.box 2 rfl rfl rfl (by decide) ?_) | (refine MkG.box 3 rfl rfl rfl (by decide) ?_) | (refine MkG.row ?_)); conv => whnf)
    | (refine LitG.row ?_; conv => whnf)
    | exact trivial
    | (refine Br.mk (fun hb => ?_) (fun hb => ?_) <;> (first | (exfalso; revert hb; decide) | ((try simp only [BL] at hb) <;> (try simp only [DL] at hb) <;> (first | (exfalso; omega) | (conv => whnf)))))
    | (refine And.intro ?_ ?_; (focus (first | exact id | exact rfl | exact trivial | (intro hg; first | exact hg | exact rfl | (simp; done) | (simp at hg ⊢; assumption)) | omega | decide | exact is2_c _ _ _ | exact is1_c _ _ | exact isS_c _ _ | exact isB_c _ _ | exact Nat.le_refl _ | assumption | exact mulLe (by decide) (by omega) | exact mulLe2 (by decide) (by omega) (by omega) | (intros; simp only [BL] at *; omega) | (intros; (try simp only [BL] at *); (try simp only [DL] at *); omega) | (intros; simp only [BL] at *; rw [wr_id (by omega) (by omega)]; omega) | (intro h1 h2; exact Bool.and_eq_true_iff.2 ⟨h1, h2⟩) | (intros; simp_all; done))); conv => whnf)
    | (refine Or.inr (And.intro rfl ?_); first | (refine congrArg intV ?_) | (refine congrArg boolV ?_) | (refine tupII ?_ ?_) | (refine tupIII ?_ ?_ ?_) | (refine tupU ?_ ?_ ?_ ?_ ?_) | exact rfl))
  refine CallC.tb 1000000 rfl (FnT.mono hT ?_)
  rintro obs r ⟨rfl, rfl⟩
  conv => whnf
  repeat' (first
    | (refine NilG.mk fun bn hbn hbx => ?_; conv => whnf)
    | (refine Both.mk ?_ ?_ <;> conv => whnf)
    | ((first | (refine MkG.box 1 rfl rfl rfl (by decide) ?_) | (refine MkG.box 2 rfl rfl rfl (by decide) ?_) | (refine MkG.box 3 rfl rfl rfl (by decide) ?_) | (refine MkG.row ?_)); conv => whnf)
    | (refine LitG.row ?_; conv => whnf)
    | exact trivial
    | (refine Br.mk (fun hb => ?_) (fun hb => ?_) <;> (first | (exfalso; revert hb; decide) | ((try simp only [BL] at hb) <;> (try simp only [DL] at hb) <;> (first | (exfalso; omega) | (conv => whnf)))))
    | (refine And.intro ?_ ?_; (focus (first | exact id | exact rfl | exact trivial | (intro hg; first | exact hg | exact rfl | (simp; done) | (simp at hg ⊢; assumption)) | omega | decide | exact is2_c _ _ _ | exact is1_c _ _ | exact isS_c _ _ | exact isB_c _ _ | exact Nat.le_refl _ | assumption | exact mulLe (by decide) (by omega) | exact mulLe2 (by decide) (by omega) (by omega) | (intros; simp only [BL] at *; omega) | (intros; (try simp only [BL] at *); (try simp only [DL] at *); omega) | (intros; simp only [BL] at *; rw [wr_id (by omega) (by omega)]; omega) | (intro h1 h2; exact Bool.and_eq_true_iff.2 ⟨h1, h2⟩) | (intros; simp_all; done))); conv => whnf)
    | (refine Or.inr (And.intro rfl ?_); first | (refine congrArg intV ?_) | (refine congrArg boolV ?_) | (refine tupII ?_ ?_) | (refine tupIII ?_ ?_ ?_) | (refine tupU ?_ ?_ ?_ ?_ ?_) | exact rfl))
theorem emp_app (a : ByteArray) : a ++ ByteArray.empty = a := by
  apply ByteArray.ext
  rw [ByteArray.data_append]
  show a.data ++ (#[] : Array UInt8) = a.data
  simp
/-- the digits, from behind -/
def dcI (A u : Nat) (s : ByteArray) : Prop := (u = A ∧ s = ByteArray.empty) ∨ (0 < s.size ∧ ((u = 0 ∧ s = decB A) ∨ (0 < u ∧ decB u ++ s = decB A)))
theorem dc_step {A u : Nat} {s : ByteArray} (h : dcI A u s) (hc : u > 0 ∨ s.size = 0) : dcI A (u / 10) (decB (u % 10) ++ s) ∧ (decB (u % 10) ++ s).size ≤ (decB A).size := by
  have hp := dec_pos (x := u % 10)
  have key : ∀ t, decB u ++ t = decB A → dcI A (u / 10) (decB (u % 10) ++ t) ∧ (decB (u % 10) ++ t).size ≤ (decB A).size := fun t ht => by
    by_cases h10 : u < 10
    · rw [Nat.mod_eq_of_lt h10, ht]
      exact ⟨.inr ⟨dec_pos, .inl ⟨Nat.div_eq_of_lt h10, rfl⟩⟩, Nat.le_refl _⟩
    · have h1 : decB (u / 10) ++ (decB (u % 10) ++ t) = decB A := by rw [← app_assoc, decB_ge h10, ht]
      refine ⟨.inr ⟨by rw [ByteArray.size_append]; omega, .inr ⟨by omega, h1⟩⟩, ?_⟩
      rw [← h1, ByteArray.size_append (a := decB (u / 10))]
      omega
  rcases h with ⟨rfl, rfl⟩ | ⟨h1, ⟨rfl, h2⟩ | ⟨h2, h3⟩⟩
  · exact key _ (emp_app _)
  · omega
  · exact key _ h3
theorem dc_done {A u : Nat} {s : ByteArray} (h : dcI A u s) (h0 : u = 0) (hs : ¬ s.size = 0) : s = decB A := by
  rcases h with ⟨rfl, rfl⟩ | ⟨h1, ⟨_, h2⟩ | ⟨h2, h3⟩⟩
  · exact absurd rfl hs
  · exact h2
  · omega
theorem emp_sz {s : ByteArray} : s = ⟨#[]⟩ ↔ s.size = 0 := by
  constructor
  · rintro rfl; rfl
  · intro h
    apply ByteArray.ext
    exact Array.eq_empty_of_size_eq_zero h
theorem dc_meas {u q : Nat} {s : ByteArray} (hc : u > 0 ∨ s.size = 0) : (u / 10 + if (decB q ++ s).size = 0 then 1 else 0) < u + if s.size = 0 then 1 else 0 := by
  have hp := dec_pos (x := q)
  rw [if_neg (by rw [ByteArray.size_append]; omega)]
  split <;> omega
set_option maxHeartbeats 8000000 in
theorem rfDecN (A : Nat) (hA : A ≤ 9223372036854775807) : Fn1 Tryd.prog 43 [intV (A : Int)] (strV (decB A)) := by
  refine fn_of_wpx (O := lex) tab_ok gamLg_ok mixed Tryd.func43 (by kernel_rfl) rfl rfl rfl (by simp [Tryd.ntmps43]) (by kernel_rfl) ?_
  conv => whnf
  repeat' (first
    | (refine NilG.mk fun bn hbn hbx => ?_; conv => whnf)
    | (refine Both.mk ?_ ?_ <;> conv => whnf)
    | ((first | (refine MkG.box 1 rfl rfl rfl (by decide) ?_) | (refine MkG.box 2 rfl rfl rfl (by decide) ?_) | (refine MkG.box 3 rfl rfl rfl (by decide) ?_) | (refine MkG.row ?_)); conv => whnf)
    | (refine LitG.row ?_; conv => whnf)
    | exact trivial
    | (refine Br.mk (fun hb => ?_) (fun hb => ?_) <;> (first | (exfalso; revert hb; decide) | ((try simp only [BL] at hb) <;> (try simp only [DL] at hb) <;> (first | (exfalso; omega) | (conv => whnf)))))
    | (refine And.intro ?_ ?_; (focus (first | exact id | exact rfl | exact trivial | (intro hg; first | exact hg | exact rfl | (simp; done) | (simp at hg ⊢; assumption)) | omega | decide | exact is2_c _ _ _ | exact is1_c _ _ | exact isS_c _ _ | exact isB_c _ _ | exact Nat.le_refl _ | assumption | exact mulLe (by decide) (by omega) | exact mulLe2 (by decide) (by omega) (by omega) | (intros; simp only [BL] at *; omega) | (intros; (try simp only [BL] at *); (try simp only [DL] at *); omega) | (intros; simp only [BL] at *; rw [wr_id (by omega) (by omega)]; omega) | (intro h1 h2; exact Bool.and_eq_true_iff.2 ⟨h1, h2⟩) | (intros; simp_all; done))); conv => whnf)
    | (refine Or.inr (And.intro rfl ?_); first | (refine congrArg intV ?_) | (refine congrArg boolV ?_) | (refine tupII ?_ ?_) | (refine tupIII ?_ ?_ ?_) | (refine tupU ?_ ?_ ?_ ?_ ?_) | exact rfl))
  refine sem_loop tab_ok gamLg_ok mixed (by kernel_rfl) (O := lex) (fun x : Nat × ByteArray => ⟨[(0, intV (x.1 : Int)), (3, strV x.2)], []⟩) (fun x => x.1 ≤ A ∧ dcI A x.1 x.2) (fun x => x.1 + (if x.2.size = 0 then 1 else 0)) ⟨(A, ByteArray.empty), [], ⟨Nat.le_refl _, .inl ⟨rfl, rfl⟩⟩, ?_⟩ fun x hx => ?_
  · refine Sub.of ?_ ?_ ?_
    repeat' (first | (refine And.intro ?_ ?_) | exact trivial | exact fun _ _ _ => hsc _ _ | (exact congrArg intV (by first | with_reducible rfl | with_reducible assumption)) | exact (rfl : AV.idsLt _ _ = true) | exact (rfl : _ = AV.ren _ (.own _)) | exact (rfl : _ = AV.ren _ (.fn _ _)) | exact (rfl : _ = AV.ren _ (.gh _)) | (exact congrArg intV (by assumption)) | (refine congrArg intV ((wr_id (by omega) (by omega)).trans (by omega))) | exact rfl | (simp only [NLc]; first | exact rfl | done) | exact all0 | exact fun h => Bool.noConfusion h | exact fun _ _ _ _ => rfl | omega)
  obtain ⟨u, s⟩ := x
  obtain ⟨hu, hs⟩ := hx
  simp only at hu hs
  dsimp only
  have hA20 := decB_20 hA
  have e1 : (u : Int).tmod 10 = ((u % 10 : Nat) : Int) := by
    rw [Int.tmod_eq_emod_of_nonneg (by omega)]
    omega
  have e2 : IntKind.i64.wrap (((u % 10 : Nat) : Int) + 1) = ((u % 10 + 1 : Nat) : Int) := (wr_id (by omega) (by omega)).trans (by omega)
  have e3 : IntKind.i64.wrap ((u : Int).tdiv 10) = ((u / 10 : Nat) : Int) := by
    rw [Int.tdiv_eq_ediv_of_nonneg (by omega)]
    exact (wr_id (by omega) (by omega)).trans (by omega)
  have hq : u % 10 < 10 := Nat.mod_lt _ (by decide)
  have hdg := (dig10 _ hq).trans (decB_lt hq).symm
  have hst := fun hc => dc_step hs hc
  generalize u % 10 = q at *
  have hs10 : (⟨#[48, 49, 50, 51, 52, 53, 54, 55, 56, 57]⟩ : ByteArray).size = 10 := rfl
  conv => whnf
  repeat' (first
    | (refine NilG.mk fun bn hbn hbx => ?_; conv => whnf)
    | (refine Both.mk ?_ ?_ <;> conv => whnf)
    | ((first | (refine MkG.box 1 rfl rfl rfl (by decide) ?_) | (refine MkG.box 2 rfl rfl rfl (by decide) ?_) | (refine MkG.box 3 rfl rfl rfl (by decide) ?_) | (refine MkG.row ?_)); conv => whnf)
    | (refine LitG.row ?_; conv => whnf)
    | exact trivial
    | (refine Br.mk (fun hb => ?_) (fun hb => ?_) <;> (first | (exfalso; revert hb; decide) | ((try simp only [BL] at hb) <;> (try simp only [DL] at hb) <;> (first | (exfalso; omega) | (conv => whnf)))))
    | (refine And.intro ?_ ?_; (focus (first | exact id | exact rfl | exact trivial | (intro hg; first | exact hg | exact rfl | (simp; done) | (simp at hg ⊢; assumption)) | omega | decide | exact is2_c _ _ _ | exact is1_c _ _ | exact isS_c _ _ | exact isB_c _ _ | exact Nat.le_refl _ | assumption | exact mulLe (by decide) (by omega) | exact mulLe2 (by decide) (by omega) (by omega) | (intros; simp only [BL] at *; omega) | (intros; (try simp only [BL] at *); (try simp only [DL] at *); omega) | (intros; simp only [BL] at *; rw [wr_id (by omega) (by omega)]; omega) | (intro h1 h2; exact Bool.and_eq_true_iff.2 ⟨h1, h2⟩) | (intros; simp_all; done))); conv => whnf)
    | (refine Or.inr (And.intro rfl ?_); first | (refine congrArg intV ?_) | (refine congrArg boolV ?_) | (refine tupII ?_ ?_) | (refine tupIII ?_ ?_ ?_) | (refine tupU ?_ ?_ ?_ ?_ ?_) | exact rfl))
  · have hc : u > 0 ∨ s.size = 0 := hb.imp (fun h => by omega) (fun h => emp_sz.1 (b_eqZ.1 h))
    obtain ⟨g1, g2⟩ := hst hc
    rw [e1, e2, hs10]
    refine And.intro ⟨by omega, by omega, by omega⟩ ?_
    simp only [Int.toNat_natCast]
    rw [hdg]
    conv => whnf
    repeat' (first
      | (refine NilG.mk fun bn hbn hbx => ?_; conv => whnf)
      | (refine Both.mk ?_ ?_ <;> conv => whnf)
      | ((first | (refine MkG.box 1 rfl rfl rfl (by decide) ?_) | (refine MkG.box 2 rfl rfl rfl (by decide) ?_) | (refine MkG.box 3 rfl rfl rfl (by decide) ?_) | (refine MkG.row ?_)); conv => whnf)
      | (refine LitG.row ?_; conv => whnf)
      | exact trivial
      | (refine Br.mk (fun hb => ?_) (fun hb => ?_) <;> (first | (exfalso; revert hb; decide) | ((try simp only [BL] at hb) <;> (try simp only [DL] at hb) <;> (first | (exfalso; omega) | (conv => whnf)))))
      | (refine And.intro ?_ ?_; (focus (first | exact id | exact rfl | exact trivial | (intro hg; first | exact hg | exact rfl | (simp; done) | (simp at hg ⊢; assumption)) | omega | decide | exact is2_c _ _ _ | exact is1_c _ _ | exact isS_c _ _ | exact isB_c _ _ | exact Nat.le_refl _ | assumption | exact mulLe (by decide) (by omega) | exact mulLe2 (by decide) (by omega) (by omega) | (intros; simp only [BL] at *; omega) | (intros; (try simp only [BL] at *); (try simp only [DL] at *); omega) | (intros; simp only [BL] at *; rw [wr_id (by omega) (by omega)]; omega) | (intro h1 h2; exact Bool.and_eq_true_iff.2 ⟨h1, h2⟩) | (show _ ≤ maxLen; rw [ByteArray.size_append] at g2; unfold maxLen; omega) | (intros; simp_all; done))); conv => whnf)
      | (refine Or.inr (And.intro rfl ?_); first | (refine congrArg intV ?_) | (refine congrArg boolV ?_) | (refine tupII ?_ ?_) | (refine tupIII ?_ ?_ ?_) | (refine tupU ?_ ?_ ?_ ?_ ?_) | exact rfl))
    rw [e3]
    refine ⟨(u / 10, decB q ++ s), [], ⟨by omega, g1⟩, dc_meas hc, ?_⟩
    refine Sub.of ?_ ?_ ?_
    repeat' (first | (refine And.intro ?_ ?_) | exact trivial | exact fun _ _ _ => hsc _ _ | (exact congrArg intV (by first | with_reducible rfl | with_reducible assumption)) | exact (rfl : AV.idsLt _ _ = true) | exact (rfl : _ = AV.ren _ (.own _)) | exact (rfl : _ = AV.ren _ (.fn _ _)) | exact (rfl : _ = AV.ren _ (.gh _)) | (exact congrArg intV (by assumption)) | (refine congrArg intV ((wr_id (by omega) (by omega)).trans (by omega))) | exact rfl | (simp only [NLc]; first | exact rfl | done) | exact all0 | exact fun h => Bool.noConfusion h | exact fun _ _ _ _ => rfl | omega)
  · have hs0 : ¬ s.size = 0 := fun h => by
      have := hb.2
      rw [b_eqZ.2 (emp_sz.2 h)] at this
      cases this
    exact .inr ⟨rfl, congrArg strV (dc_done hs (by omega) hs0)⟩
theorem rfDecM (x : Int) (h0 : -9223372036854775807 ≤ x) (hx : x < 0) : Fn1 Tryd.prog 43 [intV x] (strV (sI x)) := by
  refine fn_of_wpx (O := lex) tab_ok gamLg_ok mixed Tryd.func43 (by kernel_rfl) rfl rfl rfl (by simp [Tryd.ntmps43]) (by kernel_rfl) ?_
  have e1 : IntKind.i64.wrap (0 - x) = ((x.natAbs : Nat) : Int) := (wr_id (by omega) (by omega)).trans (by omega)
  have hd := decB_20 (u := x.natAbs) (by omega)
  have hR : (⟨#[45]⟩ : ByteArray) ++ decB x.natAbs = sI x := by
    unfold sI
    rw [if_pos hx]
  conv => whnf
  repeat' (first
    | (refine NilG.mk fun bn hbn hbx => ?_; conv => whnf)
    | (refine Both.mk ?_ ?_ <;> conv => whnf)
    | ((first | (refine MkG.box 1 rfl rfl rfl (by decide) ?_) | (refine MkG.box 2 rfl rfl rfl (by decide) ?_) | (refine MkG.box 3 rfl rfl rfl (by decide) ?_) | (refine MkG.row ?_)); conv => whnf)
    | (refine LitG.row ?_; conv => whnf)
    | exact trivial
    | (refine Br.mk (fun hb => ?_) (fun hb => ?_) <;> (first | (exfalso; revert hb; decide) | ((try simp only [BL] at hb) <;> (try simp only [DL] at hb) <;> (first | (exfalso; omega) | (conv => whnf)))))
    | (refine And.intro ?_ ?_; (focus (first | exact id | exact rfl | exact trivial | (intro hg; first | exact hg | exact rfl | (simp; done) | (simp at hg ⊢; assumption)) | omega | decide | exact is2_c _ _ _ | exact is1_c _ _ | exact isS_c _ _ | exact isB_c _ _ | exact Nat.le_refl _ | assumption | exact mulLe (by decide) (by omega) | exact mulLe2 (by decide) (by omega) (by omega) | (intros; simp only [BL] at *; omega) | (intros; (try simp only [BL] at *); (try simp only [DL] at *); omega) | (intros; simp only [BL] at *; rw [wr_id (by omega) (by omega)]; omega) | (intro h1 h2; exact Bool.and_eq_true_iff.2 ⟨h1, h2⟩) | (intros; simp_all; done))); conv => whnf)
    | (refine Or.inr (And.intro rfl ?_); first | (refine congrArg intV ?_) | (refine congrArg boolV ?_) | (refine tupII ?_ ?_) | (refine tupIII ?_ ?_ ?_) | (refine tupU ?_ ?_ ?_ ?_ ?_) | exact rfl))
  rw [e1]
  refine CallG.mk (Fn.mono (rfDecN x.natAbs (by omega)) ?_)
  rintro obs r ⟨rfl, rfl⟩
  conv => whnf
  repeat' (first
    | (refine NilG.mk fun bn hbn hbx => ?_; conv => whnf)
    | (refine Both.mk ?_ ?_ <;> conv => whnf)
    | ((first | (refine MkG.box 1 rfl rfl rfl (by decide) ?_) | (refine MkG.box 2 rfl rfl rfl (by decide) ?_) | (refine MkG.box 3 rfl rfl rfl (by decide) ?_) | (refine MkG.row ?_)); conv => whnf)
    | (refine LitG.row ?_; conv => whnf)
    | exact trivial
    | (refine Br.mk (fun hb => ?_) (fun hb => ?_) <;> (first | (exfalso; revert hb; decide) | ((try simp only [BL] at hb) <;> (try simp only [DL] at hb) <;> (first | (exfalso; omega) | (conv => whnf)))))
    | (refine And.intro ?_ ?_; (focus (first | exact id | exact rfl | exact trivial | (intro hg; first | exact hg | exact rfl | (simp; done) | (simp at hg ⊢; assumption)) | omega | decide | exact is2_c _ _ _ | exact is1_c _ _ | exact isS_c _ _ | exact isB_c _ _ | exact Nat.le_refl _ | assumption | exact mulLe (by decide) (by omega) | exact mulLe2 (by decide) (by omega) (by omega) | (intros; simp only [BL] at *; omega) | (intros; (try simp only [BL] at *); (try simp only [DL] at *); omega) | (intros; simp only [BL] at *; rw [wr_id (by omega) (by omega)]; omega) | (intro h1 h2; exact Bool.and_eq_true_iff.2 ⟨h1, h2⟩) | (show _ ≤ maxLen; unfold maxLen; show 1 + _ ≤ _; omega) | (intros; simp_all; done))); conv => whnf)
    | (refine Or.inr (And.intro rfl ?_); first | (refine congrArg intV ?_) | (refine congrArg boolV ?_) | (refine tupII ?_ ?_) | (refine tupIII ?_ ?_ ?_) | (refine tupU ?_ ?_ ?_ ?_ ?_) | exact rfl))
  exact .inr ⟨rfl, congrArg strV hR⟩
theorem rfDec (x : Int) (h0 : -9223372036854775807 ≤ x) (h1 : x ≤ 9223372036854775807) : Fn1 Tryd.prog 43 [intV x] (strV (sI x)) := by
  by_cases hx : x < 0
  · exact rfDecM x h0 hx
  · obtain ⟨A, rfl⟩ : ∃ A : Nat, x = (A : Int) := ⟨x.natAbs, by omega⟩
    rw [sI_nat]
    exact rfDecN A (by omega)
end Go.Proofs.YtjfnhehjhicnoaaDoor
