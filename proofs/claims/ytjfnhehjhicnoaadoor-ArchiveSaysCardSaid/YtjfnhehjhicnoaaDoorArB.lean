/-
  Archive: hexadecimal numerals; lines, digests and texts of the reference.
-/
import Derived.Test.YtjfnhehjhicnoaaDoorArA
namespace Go.Proofs.YtjfnhehjhicnoaaDoor
open Go.RowKit

/-! ## numerals -/
def hxc (u : Nat) : UInt8 := UInt8.ofNat (if u < 10 then 48 + u else 87 + u)
def hexD (u : Nat) : List UInt8 := if h : u < 16 then [hxc u] else hexD (u / 16) ++ [hxc (u % 16)]
termination_by u
decreasing_by omega
def hexB (u : Nat) : ByteArray := ⟨(hexD u).toArray⟩
theorem hexB_lt {u : Nat} (h : u < 16) : hexB u = ⟨#[hxc u]⟩ := by
  unfold hexB
  rw [hexD, dif_pos h]
theorem hexB_ge {u : Nat} (h : ¬ u < 16) : hexB (u / 16) ++ hexB (u % 16) = hexB u := by
  apply ByteArray.ext
  rw [ByteArray.data_append]
  show (hexD (u / 16)).toArray ++ (hexD (u % 16)).toArray = (hexD u).toArray
  rw [hexD.eq_def u, dif_neg h, hexD.eq_def (u % 16), dif_pos (Nat.mod_lt _ (by decide))]
  simp
theorem hexB_size {u : Nat} : ∀ {k : Nat}, u < 16 ^ (k + 1) → (hexB u).size ≤ k + 1 := by
  intro k
  induction k generalizing u with
  | zero =>
    intro h
    rw [hexB_lt (by simpa using h)]
    exact Nat.le_refl _
  | succ k ih =>
    intro h
    by_cases h16 : u < 16
    · rw [hexB_lt h16]
      show 1 ≤ k + 1 + 1
      omega
    · have h1 := ih (u := u / 16) (by
        rw [Nat.pow_succ] at h
        exact Nat.div_lt_of_lt_mul (by rw [Nat.mul_comm]; exact h))
      rw [← hexB_ge h16, ByteArray.size_append, hexB_lt (Nat.mod_lt _ (by decide))]
      show _ + 1 ≤ k + 1 + 1
      omega
theorem hex_pos {x : Nat} : 0 < (hexB x).size := by
  by_cases h : x < 16
  · rw [hexB_lt h]; exact Nat.one_pos
  · rw [← hexB_ge h, ByteArray.size_append, hexB_lt (Nat.mod_lt _ (by decide))]
    exact Nat.succ_pos _
theorem dig16 : ∀ u, u < 16 → (⟨#[48, 49, 50, 51, 52, 53, 54, 55, 56, 57, 97, 98, 99, 100, 101, 102]⟩ : ByteArray).extract u (u + 1) = ⟨#[hxc u]⟩ := by decide
/-- the digits, from behind -/
def hxI (A u : Nat) (s : ByteArray) : Prop := (u = A ∧ s = ByteArray.empty) ∨ (0 < s.size ∧ ((u = 0 ∧ s = hexB A) ∨ (0 < u ∧ hexB u ++ s = hexB A)))
theorem hx_step {A u : Nat} {s : ByteArray} (h : hxI A u s) (hc : u > 0 ∨ s.size = 0) : hxI A (u / 16) (hexB (u % 16) ++ s) ∧ (hexB (u % 16) ++ s).size ≤ (hexB A).size := by
  have hp := hex_pos (x := u % 16)
  have key : ∀ t, hexB u ++ t = hexB A → hxI A (u / 16) (hexB (u % 16) ++ t) ∧ (hexB (u % 16) ++ t).size ≤ (hexB A).size := fun t ht => by
    by_cases h16 : u < 16
    · rw [Nat.mod_eq_of_lt h16, ht]
      exact ⟨.inr ⟨hex_pos, .inl ⟨Nat.div_eq_of_lt h16, rfl⟩⟩, Nat.le_refl _⟩
    · have h1 : hexB (u / 16) ++ (hexB (u % 16) ++ t) = hexB A := by rw [← app_assoc, hexB_ge h16, ht]
      refine ⟨.inr ⟨by rw [ByteArray.size_append]; omega, .inr ⟨by omega, h1⟩⟩, ?_⟩
      rw [← h1, ByteArray.size_append (a := hexB (u / 16))]
      omega
  rcases h with ⟨rfl, rfl⟩ | ⟨h1, ⟨rfl, h2⟩ | ⟨h2, h3⟩⟩
  · exact key _ (emp_app _)
  · omega
  · exact key _ h3
theorem hx_done {A u : Nat} {s : ByteArray} (h : hxI A u s) (h0 : u = 0) (hs : ¬ s.size = 0) : s = hexB A := by
  rcases h with ⟨rfl, rfl⟩ | ⟨h1, ⟨_, h2⟩ | ⟨h2, h3⟩⟩
  · exact absurd rfl hs
  · exact h2
  · omega
theorem hx_meas {u q : Nat} {s : ByteArray} (hc : u > 0 ∨ s.size = 0) : (u / 16 + if (hexB q ++ s).size = 0 then 1 else 0) < u + if s.size = 0 then 1 else 0 := by
  have hp := hex_pos (x := q)
  rw [if_neg (by rw [ByteArray.size_append]; omega)]
  split <;> omega
theorem and15 {u : Nat} (hu : u < 18446744073709551616) : andI .u64 (u : Int) 15 = ((u % 16 : Nat) : Int) := by
  show IntKind.u64.wrap (((BitVec.ofInt 64 (u : Int) &&& BitVec.ofInt 64 15).toNat : Nat) : Int) = _
  have h1 : (BitVec.ofInt 64 (u : Int) &&& BitVec.ofInt 64 15).toNat = u % 16 := by
    rw [BitVec.toNat_and, BitVec.ofInt_natCast, BitVec.toNat_ofNat, Nat.mod_eq_of_lt (by omega)]
    exact Nat.and_two_pow_sub_one_eq_mod u 4
  rw [h1]
  exact wr64 (by omega)
theorem shr4 {u : Nat} : shrI .u64 (u : Int) 4 = ((u / 16 : Nat) : Int) := by
  unfold shrI
  rw [show min (4 : Int).toNat IntKind.u64.bits = 4 from rfl, Int.fdiv_eq_ediv_of_nonneg _ (by decide)]
  rfl
set_option maxHeartbeats 8000000 in
theorem arHex (A : Nat) (hA : A < 18446744073709551616) : Fn1 Tryd.prog 44 [u64V (A : Int)] (strV (hexB A)) := by
  refine fn_of_wpx (O := lex) tab_ok gamN1_ok mixed Tryd.func44 (by kernel_rfl) rfl rfl rfl (by simp [Tryd.ntmps44]) (by kernel_rfl) ?_
  conv => whnf
  repeat' (first
    | (refine NilG.mk fun bn hbn hbx => ?_; conv => whnf)
    | (refine Both.mk ?_ ?_ <;> conv => whnf)
    | ((first | (refine MkG.box 1 rfl rfl rfl (by decide) ?_) | (refine MkG.box 2 rfl rfl rfl (by decide) ?_) | (refine MkG.box 3 rfl rfl rfl (by decide) ?_) | (refine MkG.row ?_)); conv => whnf)
    | (refine LitG.row ?_; conv => whnf)
    | exact trivial
    | (refine Br.mk (fun hb => ?_) (fun hb => ?_) <;> (first | (exfalso; revert hb; decide) | ((try simp only [BL] at hb) <;> (try simp only [DL] at hb) <;> (first | (exfalso; omega) | (conv => whnf)))))
    | (refine And.intro ?_ ?_; (focus (first | exact id | exact rfl | exact trivial | (intro hg; first | exact hg | exact rfl | (simp; done) | (simp at hg ⊢; assumption)) | omega | decide | exact is2_c _ _ _ | exact is1_c _ _ | exact isS_c _ _ | exact isB_c _ _ | exact Nat.le_refl _ | assumption | exact mulLe (by decide) (by omega) | exact mulLe2 (by decide) (by omega) (by omega) | (intros; simp only [BL] at *; omega) | (intros; (try simp only [BL] at *); (try simp only [DL] at *); omega) | (intros; simp only [BL] at *; rw [wr_id (by omega) (by omega)]; omega) | (intro h1 h2; exact Bool.and_eq_true_iff.2 ⟨h1, h2⟩) | (intros; simp_all; done))); conv => whnf)
    | (refine Or.inr (And.intro rfl ?_); first | (refine congrArg intV ?_) | (refine congrArg boolV ?_) | (refine tupII ?_ ?_) | (refine tupIII ?_ ?_ ?_) | (refine tupU ?_ ?_ ?_ ?_ ?_) | exact rfl))
  refine sem_loop tab_ok gamN1_ok mixed (by kernel_rfl) (O := lex) (fun x : Nat × ByteArray => ⟨[(0, u64V (x.1 : Int)), (3, strV x.2)], []⟩) (fun x => x.1 ≤ A ∧ hxI A x.1 x.2) (fun x => x.1 + (if x.2.size = 0 then 1 else 0)) ⟨(A, ByteArray.empty), [], ⟨Nat.le_refl _, .inl ⟨rfl, rfl⟩⟩, ?_⟩ fun x hx => ?_
  · refine Sub.of ?_ ?_ ?_
    repeat' (first | (refine And.intro ?_ ?_) | exact trivial | exact fun _ _ _ => hsc _ _ | (exact congrArg intV (by first | with_reducible rfl | with_reducible assumption)) | exact (rfl : AV.idsLt _ _ = true) | exact (rfl : _ = AV.ren _ (.own _)) | exact (rfl : _ = AV.ren _ (.fn _ _)) | exact (rfl : _ = AV.ren _ (.gh _)) | (exact congrArg intV (by assumption)) | (refine congrArg intV ((wr_id (by omega) (by omega)).trans (by omega))) | exact rfl | (simp only [NLc]; first | exact rfl | done) | exact all0 | exact fun h => Bool.noConfusion h | exact fun _ _ _ _ => rfl | omega)
  obtain ⟨u, s⟩ := x
  obtain ⟨hu, hs⟩ := hx
  simp only at hu hs
  dsimp only
  have hA16 := hexB_size (u := A) (k := 15) hA
  have e1 := and15 (u := u) (by omega)
  have e2 : IntKind.u64.wrap (((u % 16 : Nat) : Int) + 1) = ((u % 16 + 1 : Nat) : Int) := by
    rw [show ((u % 16 : Nat) : Int) + 1 = ((u % 16 + 1 : Nat) : Int) by omega]
    exact wr64 (by omega)
  have e3 := shr4 (u := u)
  have hq : u % 16 < 16 := Nat.mod_lt _ (by decide)
  have hdg := (dig16 _ hq).trans (hexB_lt hq).symm
  have hst := fun hc => hx_step hs hc
  generalize u % 16 = q at *
  have hs16 : (⟨#[48, 49, 50, 51, 52, 53, 54, 55, 56, 57, 97, 98, 99, 100, 101, 102]⟩ : ByteArray).size = 16 := rfl
  conv => whnf
  repeat' (first
    | (refine NilG.mk fun bn hbn hbx => ?_; conv => whnf)
    | (refine Both.mk ?_ ?_ <;> conv => whnf)
    | ((first | (refine MkG.box 1 rfl rfl rfl (by decide) ?_) | (refine MkG.box 2 rfl rfl rfl (by decide) ?_) | (refine MkG.box 3 rfl rfl rfl (by decide) ?_) | (refine MkG.row ?_)); conv => whnf)
    | (refine LitG.row ?_; conv => whnf)
    | exact trivial
    | (refine Br.mk (fun hb => ?_) (fun hb => ?_) <;> (first | (exfalso; revert hb; decide) | ((try simp only [BL] at hb) <;> (try simp only [DL] at hb) <;> (first | (exfalso; omega) | (conv => whnf)))))
    | (refine And.intro ?_ ?_; (focus (first | exact id | exact rfl | exact trivial | (intro hg; first | exact hg | exact rfl | (simp; done) | (simp at hg ⊢; assumption)) | omega | decide | exact is2_c _ _ _ | exact is1_c _ _ | exact isS_c _ _ | exact isB_c _ _ | exact Nat.le_refl _ | assumption | exact mulLe (by decide) (by omega) | exact mulLe2 (by decide) (by omega) (by omega) | (intros; simp only [BL] at *; omega) | (intros; (try simp only [BL] at *); (try simp only [DL] at *); omega) | (intros; simp only [BL] at *; rw [wr_id (by omega) (by omega)]; omega) | (intro h1 h2; exact Bool.and_eq_true_iff.2 ⟨h1, h2⟩) | (intros; simp_all; done))); conv => whnf)
    | (refine Or.inr (And.intro rfl ?_); first | (refine congrArg intV ?_) | (refine congrArg boolV ?_) | (refine tupII ?_ ?_) | (refine tupIII ?_ ?_ ?_) | (refine tupU ?_ ?_ ?_ ?_ ?_) | exact rfl))
  · have hc : u > 0 ∨ s.size = 0 := hb.imp (fun h => by omega) (fun h => emp_sz.1 (b_eqZ.1 h))
    obtain ⟨g1, g2⟩ := hst hc
    rw [e1, e2, hs16]
    refine And.intro ⟨by omega, by omega, by omega⟩ ?_
    simp only [Int.toNat_natCast]
    rw [hdg]
    conv => whnf
    repeat' (first
      | (refine NilG.mk fun bn hbn hbx => ?_; conv => whnf)
      | (refine Both.mk ?_ ?_ <;> conv => whnf)
      | ((first | (refine MkG.box 1 rfl rfl rfl (by decide) ?_) | (refine MkG.box 2 rfl rfl rfl (by decide) ?_) | (refine MkG.box 3 rfl rfl rfl (by decide) ?_) | (refine MkG.row ?_)); conv => whnf)
      | (refine LitG.row ?_; conv => whnf)
      | exact trivial
      | (refine Br.mk (fun hb => ?_) (fun hb => ?_) <;> (first | (exfalso; revert hb; decide) | ((try simp only [BL] at hb) <;> (try simp only [DL] at hb) <;> (first | (exfalso; omega) | (conv => whnf)))))
      | (refine And.intro ?_ ?_; (focus (first | exact id | exact rfl | exact trivial | (intro hg; first | exact hg | exact rfl | (simp; done) | (simp at hg ⊢; assumption)) | omega | decide | exact is2_c _ _ _ | exact is1_c _ _ | exact isS_c _ _ | exact isB_c _ _ | exact Nat.le_refl _ | assumption | exact mulLe (by decide) (by omega) | exact mulLe2 (by decide) (by omega) (by omega) | (intros; simp only [BL] at *; omega) | (intros; (try simp only [BL] at *); (try simp only [DL] at *); omega) | (intros; simp only [BL] at *; rw [wr_id (by omega) (by omega)]; omega) | (intro h1 h2; exact Bool.and_eq_true_iff.2 ⟨h1, h2⟩) | (show _ ≤ maxLen; rw [ByteArray.size_append] at g2; unfold maxLen; omega) | (intros; simp_all; done))); conv => whnf)
      | (refine Or.inr (And.intro rfl ?_); first | (refine congrArg intV ?_) | (refine congrArg boolV ?_) | (refine tupII ?_ ?_) | (refine tupIII ?_ ?_ ?_) | (refine tupU ?_ ?_ ?_ ?_ ?_) | exact rfl))
    rw [e3]
    refine ⟨(u / 16, hexB q ++ s), [], ⟨by omega, g1⟩, hx_meas hc, ?_⟩
    refine Sub.of ?_ ?_ ?_
    repeat' (first | (refine And.intro ?_ ?_) | exact trivial | exact fun _ _ _ => hsc _ _ | (exact congrArg intV (by first | with_reducible rfl | with_reducible assumption)) | exact (rfl : AV.idsLt _ _ = true) | exact (rfl : _ = AV.ren _ (.own _)) | exact (rfl : _ = AV.ren _ (.fn _ _)) | exact (rfl : _ = AV.ren _ (.gh _)) | (exact congrArg intV (by assumption)) | (refine congrArg intV ((wr_id (by omega) (by omega)).trans (by omega))) | exact rfl | (simp only [NLc]; first | exact rfl | done) | exact all0 | exact fun h => Bool.noConfusion h | exact fun _ _ _ _ => rfl | omega)
  · have hs0 : ¬ s.size = 0 := fun h => by
      have := hb.2
      rw [b_eqZ.2 (emp_sz.2 h)] at this
      cases this
    exact .inr ⟨rfl, congrArg strV (hx_done hs (by omega) hs0)⟩
end Go.Proofs.YtjfnhehjhicnoaaDoor
