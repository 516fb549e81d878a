/-
  SwingSteps: the package swing.
-/
import Derived.Test.YtjfnhehjhicnoaaDoorRaA
import Derived.Test.YtjfnhehjhicnoaaDoorLgO
import Derived.Test.YtjfnhehjhicnoaaDoorRdR
namespace Go.Proofs.YtjfnhehjhicnoaaDoor
open Go.RowKit

/-- the numerators of the steps -/
def stN (M : Nat) (dm sd f : Int) : Nat → Int
  | 0 => f
  | k + 1 => stN M dm sd f k * M + sd * ((M ^ k : Nat) : Int) - dm * stN M dm sd f k
theorem abs_mul_le {x y : Int} {A B : Nat} (hx : x.natAbs ≤ A) (hy : y.natAbs ≤ B) : (x * y).natAbs ≤ A * B := by
  rw [Int.natAbs_mul]
  exact Nat.mul_le_mul hx hy
theorem stN_le {M : Nat} {dm sd f : Int} (hM : 1 ≤ M) (hd0 : 0 ≤ dm) (hd : dm ≤ M) (hs : sd.natAbs ≤ 500) (hf : f.natAbs ≤ 300) : ∀ k, (stN M dm sd f k).natAbs ≤ (300 + 500 * k) * M ^ k
  | 0 => by
    show f.natAbs ≤ _
    simp
    exact hf
  | k + 1 => by
    have h := stN_le hM hd0 hd hs hf k
    obtain ⟨c, hc⟩ : ∃ c : Nat, (M : Int) - dm = c := ⟨((M : Int) - dm).toNat, by omega⟩
    have hcM : c ≤ M := by omega
    have e : stN M dm sd f (k + 1) = stN M dm sd f k * (c : Int) + sd * ((M ^ k : Nat) : Int) := by
      show stN M dm sd f k * M + sd * ((M ^ k : Nat) : Int) - dm * stN M dm sd f k = _
      rw [← hc]
      grind
    have h1 : (stN M dm sd f k * (c : Int)).natAbs ≤ (300 + 500 * k) * M ^ k * M := abs_mul_le h (by rw [Int.natAbs_natCast]; exact hcM)
    have h2 : (sd * ((M ^ k : Nat) : Int)).natAbs ≤ 500 * M ^ k := abs_mul_le hs (by rw [Int.natAbs_natCast]; exact Nat.le_refl _)
    have h3 : M ^ k ≤ M ^ k * M := Nat.le_mul_of_pos_right _ hM
    have h4 := Int.natAbs_add_le (stN M dm sd f k * (c : Int)) (sd * ((M ^ k : Nat) : Int))
    rw [e, Nat.pow_succ]
    have e2 : (300 + 500 * (k + 1)) * (M ^ k * M) = (300 + 500 * k) * M ^ k * M + 500 * (M ^ k * M) := by grind
    omega
/-- what the program reckons in one step -/
def sTN (dm F : Int) (q : Nat) : Int := redN (dm * F) (1 * q)
def sTD (dm F : Int) (q : Nat) : Nat := redD (dm * F) (1 * q)
def sEN (dm sd F : Int) (q : Nat) : Int := redN (sd * ((sTD dm F q : Nat) : Int) + -sTN dm F q * ((1 : Nat) : Int)) (1 * sTD dm F q)
def sED (dm sd F : Int) (q : Nat) : Nat := redD (sd * ((sTD dm F q : Nat) : Int) + -sTN dm F q * ((1 : Nat) : Int)) (1 * sTD dm F q)
def sHN (M : Nat) (dm sd F : Int) (q : Nat) : Int := redN (sEN dm sd F q * ((1 : Nat) : Int)) (sED dm sd F q * M)
def sHD (M : Nat) (dm sd F : Int) (q : Nat) : Nat := redD (sEN dm sd F q * ((1 : Nat) : Int)) (sED dm sd F q * M)
def sFN (M : Nat) (dm sd F : Int) (q : Nat) : Int := redN (F * ((sHD M dm sd F q : Nat) : Int) + sHN M dm sd F q * (q : Int)) (q * sHD M dm sd F q)
def sFD (M : Nat) (dm sd F : Int) (q : Nat) : Nat := redD (F * ((sHD M dm sd F q : Nat) : Int) + sHN M dm sd F q * (q : Int)) (q * sHD M dm sd F q)
section
variable {M : Nat} {dm sd F : Int} {q : Nat}
theorem sTD_pos (hq : 0 < q) : 0 < sTD dm F q := redD_pos (by omega)
theorem sED_pos (hq : 0 < q) : 0 < sED dm sd F q := redD_pos (by have := sTD_pos (dm := dm) (F := F) hq; omega)
theorem sHD_pos (hM : 1 ≤ M) (hq : 0 < q) : 0 < sHD M dm sd F q := redD_pos (Nat.mul_pos (sED_pos hq) hM)
theorem sw_next {N : Int} {D : Nat} (hM : 1 ≤ M) (hq : 0 < q) (hD : 0 < D) (h0 : eqv F q N D) : sFN M dm sd F q = redN (N * M + sd * D - dm * N) (D * M) ∧ sFD M dm sd F q = redD (N * M + sd * D - dm * N) (D * M) := by
  have pT := sTD_pos (dm := dm) (F := F) hq
  have pE := sED_pos (dm := dm) (sd := sd) (F := F) hq
  have pH := sHD_pos (M := M) (dm := dm) (sd := sd) (F := F) hM hq
  have h1 : eqv (sTN dm F q) (sTD dm F q) (dm * N) D := by
    refine eqv_trans (q := 1 * q) (by omega) (eqv_red (dm * F) (by omega)) ?_
    unfold eqv at *
    rw [Int.natCast_mul]
    grind
  have h2 : eqv (sEN dm sd F q) (sED dm sd F q) (sd * D - dm * N) D := by
    refine eqv_trans (q := 1 * sTD dm F q) (by omega) (eqv_red _ (by omega)) ?_
    unfold eqv at *
    rw [Int.natCast_mul]
    grind
  have h3 : eqv (sHN M dm sd F q) (sHD M dm sd F q) (sd * D - dm * N) (D * M) := by
    refine eqv_trans (q := sED dm sd F q * M) (Nat.mul_pos pE hM) (eqv_red _ (Nat.mul_pos pE hM)) ?_
    unfold eqv at *
    rw [Int.natCast_mul, Int.natCast_mul]
    grind
  refine red_uniq (Nat.mul_pos hq pH) (Nat.mul_pos hD hM) ?_
  unfold eqv at *
  rw [Int.natCast_mul, Int.natCast_mul]
  rw [Int.natCast_mul] at h3
  grind
theorem sT_le (hq : 0 < q) (hd : dm.natAbs ≤ 20) (hF : F.natAbs ≤ 9000000000) (hqQ : q ≤ 3200000) : (dm * F).natAbs ≤ 180000000000 ∧ (sTN dm F q).natAbs ≤ 180000000000 ∧ sTD dm F q ≤ 3200000 := by
  have h1 : (dm * F).natAbs ≤ 20 * 9000000000 := abs_mul_le hd hF
  have h2 := redN_le (n := dm * F) (d := 1 * q) (by omega)
  have h3 := redD_le (dm * F) (1 * q)
  unfold sTN sTD
  omega
theorem sE_le (hq : 0 < q) (hd : dm.natAbs ≤ 20) (hs : sd.natAbs ≤ 500) (hF : F.natAbs ≤ 9000000000) (hqQ : q ≤ 3200000) : (sd * ((sTD dm F q : Nat) : Int)).natAbs ≤ 1600000000 ∧ (sEN dm sd F q).natAbs ≤ 182000000000 ∧ sED dm sd F q ≤ 3200000 := by
  obtain ⟨t1, t2, t3⟩ := sT_le (dm := dm) hq hd hF hqQ
  have pT := sTD_pos (dm := dm) (F := F) hq
  have h1 : (sd * ((sTD dm F q : Nat) : Int)).natAbs ≤ 500 * 3200000 := abs_mul_le hs (by rw [Int.natAbs_natCast]; exact t3)
  have h2 := redN_le (n := sd * ((sTD dm F q : Nat) : Int) + -sTN dm F q * ((1 : Nat) : Int)) (d := 1 * sTD dm F q) (by omega)
  have h3 := redD_le (sd * ((sTD dm F q : Nat) : Int) + -sTN dm F q * ((1 : Nat) : Int)) (1 * sTD dm F q)
  unfold sEN sED
  omega
theorem sH_le (hM : 1 ≤ M) (hM2 : M ≤ 20) (hq : 0 < q) (hd : dm.natAbs ≤ 20) (hs : sd.natAbs ≤ 500) (hF : F.natAbs ≤ 9000000000) (hqQ : q ≤ 3200000) : sED dm sd F q * M ≤ 64000000 ∧ (sHN M dm sd F q).natAbs ≤ 182000000000 ∧ sHD M dm sd F q ≤ 64000000 := by
  obtain ⟨t1, t2, t3⟩ := sE_le (dm := dm) (sd := sd) hq hd hs hF hqQ
  have pE := sED_pos (dm := dm) (sd := sd) (F := F) hq
  have h1 : sED dm sd F q * M ≤ 3200000 * 20 := Nat.mul_le_mul t3 hM2
  have h2 := redN_le (n := sEN dm sd F q * ((1 : Nat) : Int)) (d := sED dm sd F q * M) (Nat.mul_pos pE hM)
  have h3 := redD_le (sEN dm sd F q * ((1 : Nat) : Int)) (sED dm sd F q * M)
  unfold sHN sHD
  omega
theorem sF_le (hM : 1 ≤ M) (hM2 : M ≤ 20) (hq : 0 < q) (hd : dm.natAbs ≤ 20) (hs : sd.natAbs ≤ 500) (hF : F.natAbs ≤ 9000000000) (hqQ : q ≤ 3200000) : (F * ((sHD M dm sd F q : Nat) : Int)).natAbs ≤ 576000000000000000 ∧ (sHN M dm sd F q * (q : Int)).natAbs ≤ 582400000000000000 ∧ q * sHD M dm sd F q ≤ 204800000000000 := by
  obtain ⟨t1, t2, t3⟩ := sH_le (M := M) (dm := dm) (sd := sd) hM hM2 hq hd hs hF hqQ
  exact ⟨abs_mul_le (A := 9000000000) (B := 64000000) hF (by rw [Int.natAbs_natCast]; exact t3), abs_mul_le (A := 182000000000) (B := 3200000) t2 (by rw [Int.natAbs_natCast]; exact hqQ), (show q * sHD M dm sd F q ≤ 3200000 * 64000000 from Nat.mul_le_mul hqQ t3)⟩
end
/-- the program's fraction after k steps -/
def swN (M : Nat) (dm sd f : Int) (k : Nat) : Int := redN (stN M dm sd f k) (M ^ k)
def swD (M : Nat) (dm sd f : Int) (k : Nat) : Nat := redD (stN M dm sd f k) (M ^ k)
theorem pw20 {M k : Nat} (hM : M ≤ 20) (hk : k ≤ 5) : M ^ k ≤ 3200000 := by
  have h1 : M ^ k ≤ 20 ^ k := Nat.pow_le_pow_left hM k
  have h2 : 20 ^ k ≤ 20 ^ 5 := Nat.pow_le_pow_right (by decide) hk
  have h3 : 20 ^ 5 = 3200000 := by decide
  omega
section
variable {M : Nat} {dm sd f : Int}
theorem sw_0 : swN M dm sd f 0 = f ∧ swD M dm sd f 0 = 1 := red_id (n := f) (d := M ^ 0) (by rw [Nat.pow_zero]; exact Nat.gcd_one_right _)
theorem sw_bnd (hM : 1 ≤ M) (hM2 : M ≤ 20) (hd0 : 0 ≤ dm) (hd : dm ≤ M) (hs : sd.natAbs ≤ 500) (hf : f.natAbs ≤ 300) {k : Nat} (hk : k ≤ 5) : (swN M dm sd f k).natAbs ≤ 9000000000 ∧ swD M dm sd f k ≤ 3200000 ∧ 0 < swD M dm sd f k := by
  have hp : 0 < M ^ k := Nat.pow_pos hM
  have h1 := stN_le hM hd0 hd hs hf k
  have h2 := redN_le (n := stN M dm sd f k) hp
  have h3 := redD_le (stN M dm sd f k) (M ^ k)
  have h4 := pw20 hM2 hk
  have h5 : (300 + 500 * k) * M ^ k ≤ 2800 * 3200000 := Nat.mul_le_mul (by omega) h4
  refine ⟨?_, ?_, redD_pos hp⟩
  · unfold swN
    omega
  · unfold swD
    omega
theorem sw_bnd6 (hM : 1 ≤ M) (hM2 : M ≤ 20) (hd0 : 0 ≤ dm) (hd : dm ≤ M) (hs : sd.natAbs ≤ 500) (hf : f.natAbs ≤ 300) {k : Nat} (hk : k ≤ 5) : (stN M dm sd f (k + 1)).natAbs ≤ 212000000000 ∧ M ^ (k + 1) ≤ 64000000 ∧ 0 < M ^ (k + 1) := by
  have hp : 0 < M ^ (k + 1) := Nat.pow_pos hM
  have h1 := stN_le hM hd0 hd hs hf (k + 1)
  have h4 : M ^ k * M ≤ 3200000 * 20 := Nat.mul_le_mul (pw20 hM2 hk) hM2
  have h4 : M ^ (k + 1) ≤ 64000000 := by rw [Nat.pow_succ]; exact h4
  have h5 : (300 + 500 * (k + 1)) * M ^ (k + 1) ≤ 3300 * 64000000 := Nat.mul_le_mul (by omega) h4
  omega
theorem sw_succ (hM : 1 ≤ M) (k : Nat) : sFN M dm sd (swN M dm sd f k) (swD M dm sd f k) = swN M dm sd f (k + 1) ∧ sFD M dm sd (swN M dm sd f k) (swD M dm sd f k) = swD M dm sd f (k + 1) := by
  have hp : 0 < M ^ k := Nat.pow_pos hM
  have h := sw_next (dm := dm) (sd := sd) hM (redD_pos (n := stN M dm sd f k) hp) hp (eqv_red (stN M dm sd f k) hp)
  rw [← Nat.pow_succ] at h
  exact h
end
end Go.Proofs.YtjfnhehjhicnoaaDoor

namespace Go.Proofs.YtjfnhehjhicnoaaDoor
open Go.RowKit

def gamSw : Gam := quiet (lgL ++ [58, 61, 31, 22, 29]) gamN1
theorem gamSw_ok : GOk Tryd.prog gamSw := quiet_ok gamN1_ok
def oSr : Ord := fun id =>  if id = 10 then some (.go 0 (.go 1 (.go 2 (.go 4 (.go 5 (.go 3 (.go 6 (.go 7 (.go 8 (.go 9 ((.done)))))))))))) else none
def oSx : Ord := fun id =>  if id = 1 then some (.go 0 (.go 1 (.go 2 (.go 3 (.go 4 (.go 6 (.go 7 (.go 9 (.go 5 (.go 8 (.go 10 (.go 11 (.go 12 ((.done))))))))))))))) else none
def oSw : Ord := fun id =>  if id = 6 then some (.go 0 (.go 1 (.go 3 (.go 4 (.go 2 (.go 6 (.go 5 (.go 7 (.go 8 (.go 9 ((.done)))))))))))) else none
end Go.Proofs.YtjfnhehjhicnoaaDoor

namespace Go.Proofs.YtjfnhehjhicnoaaDoor
open Go.RowKit

theorem raWholeN (x : Int) (h0 : -9223372036854775808 ≤ x) (h1 : x ≤ 9223372036854775807) : Fn1 Tryd.prog 60 [intV x] (.agg (rtA x ((1 : Nat) : Int))) := raWhole x h0 h1
theorem swText (N : Int) (D : Nat) (hN : N.natAbs < 1000000000 ^ 2) (hD : D < 1000000000 ^ 2) : FnT Tryd.prog pwG pwC 61 [.agg (rtA N D)] (fun obs r => obs = [] ∧ r = .tup [strV (rT N D), intV 0]) := by
  refine fnT_of_wpx (O := lex) tab_ok gamSw_ok mixed Tryd.func61 (by kernel_rfl) rfl rfl rfl (by simp [Tryd.ntmps61]) (by kernel_rfl) ?_
  have hT := lgRText N D hN hD
  generalize rT N D = t at *
  unfold rtA igI igA at *
  conv => whnf
  repeat' (first
    | (refine NilG.mk fun bn hbn hbx => ?_; conv => whnf)
    | (refine Both.mk ?_ ?_ <;> conv => whnf)
    | ((first | (refine MkG.box 1 rfl rfl rfl (by decide) ?_) | (refine MkG.box 2 rfl rfl rfl (by decide) ?_) | (refine MkG.box 3 rfl rfl rfl (by decide) ?_) | (refine MkG.row ?_)); conv => whnf)
    | (refine LitG.row ?_; conv => whnf)
    | exact trivial
    | (refine Br.mk (fun hb => ?_) (fun hb => ?_) <;> (first | (exfalso; revert hb; decide) | ((try simp only [BL] at hb) <;> (try simp only [DL] at hb) <;> (first | (exfalso; omega) | (conv => whnf)))))
    | (refine And.intro ?_ ?_; (focus (first | exact id | exact rfl | exact trivial | (intro hg; first | exact hg | exact rfl | (simp; done) | (simp at hg ⊢; assumption)) | omega | decide | exact is2_c _ _ _ | exact is1_c _ _ | exact isS_c _ _ | exact isB_c _ _ | exact Nat.le_refl _ | assumption | exact mulLe (by decide) (by omega) | exact mulLe2 (by decide) (by omega) (by omega) | (intros; simp only [BL] at *; omega) | (intros; (try simp only [BL] at *); (try simp only [DL] at *); omega) | (intros; simp only [BL] at *; rw [wr_id (by omega) (by omega)]; omega) | (intro h1 h2; exact Bool.and_eq_true_iff.2 ⟨h1, h2⟩) | (intros; simp_all; done))); conv => whnf)
    | (refine Or.inr (And.intro rfl ?_); first | (refine congrArg intV ?_) | (refine congrArg boolV ?_) | (refine tupII ?_ ?_) | (refine tupIII ?_ ?_ ?_) | (refine tupU ?_ ?_ ?_ ?_ ?_) | exact rfl))
  refine CallC.tb 1000000 rfl (FnT.mono hT ?_)
  rintro obs r ⟨rfl, rfl⟩
  conv => whnf
  repeat' (first
    | (refine NilG.mk fun bn hbn hbx => ?_; conv => whnf)
    | (refine Both.mk ?_ ?_ <;> conv => whnf)
    | ((first | (refine MkG.box 1 rfl rfl rfl (by decide) ?_) | (refine MkG.box 2 rfl rfl rfl (by decide) ?_) | (refine MkG.box 3 rfl rfl rfl (by decide) ?_) | (refine MkG.row ?_)); conv => whnf)
    | (refine LitG.row ?_; conv => whnf)
    | exact trivial
    | (refine Br.mk (fun hb => ?_) (fun hb => ?_) <;> (first | (exfalso; revert hb; decide) | ((try simp only [BL] at hb) <;> (try simp only [DL] at hb) <;> (first | (exfalso; omega) | (conv => whnf)))))
    | (refine And.intro ?_ ?_; (focus (first | exact id | exact rfl | exact trivial | (intro hg; first | exact hg | exact rfl | (simp; done) | (simp at hg ⊢; assumption)) | omega | decide | exact is2_c _ _ _ | exact is1_c _ _ | exact isS_c _ _ | exact isB_c _ _ | exact Nat.le_refl _ | assumption | exact mulLe (by decide) (by omega) | exact mulLe2 (by decide) (by omega) (by omega) | (intros; simp only [BL] at *; omega) | (intros; (try simp only [BL] at *); (try simp only [DL] at *); omega) | (intros; simp only [BL] at *; rw [wr_id (by omega) (by omega)]; omega) | (intro h1 h2; exact Bool.and_eq_true_iff.2 ⟨h1, h2⟩) | (intros; simp_all; done))); conv => whnf)
    | (refine Or.inr (And.intro rfl ?_); first | (refine congrArg intV ?_) | (refine congrArg boolV ?_) | (refine tupII ?_ ?_) | (refine tupIII ?_ ?_ ?_) | (refine tupU ?_ ?_ ?_ ?_ ?_) | exact rfl))
/-- an island's cells -/
def isA (M : Nat) (dm su de : Int) (fr : ByteArray) : List AV := [intV (M : Int), intV dm, intV su, intV de, strV fr]
theorem lt64 {a b : Nat} (h : a ≤ b) (hb : b < 18446744073709551616 := by decide) : a < 18446744073709551616 := Nat.lt_of_le_of_lt h hb
set_option maxRecDepth 100000 in
set_option maxHeartbeats 4000000 in
theorem swExcess (M q : Nat) (dm su de F : Int) (fr : ByteArray) (hq : 0 < q) (hd : dm.natAbs ≤ 20) (hs : (su - de).natAbs ≤ 500) (hF : F.natAbs ≤ 9000000000) (hqQ : q ≤ 3200000) : Fn1 Tryd.prog 58 [.agg (isA M dm su de fr), .agg (rtA F q)] (.agg (rtA (sEN dm (su - de) F q) ((sED dm (su - de) F q : Nat) : Int))) := by
  refine fn_of_wpx (O := oSx) tab_ok gamSw_ok mixed Tryd.func58 (by kernel_rfl) rfl rfl rfl (by simp [Tryd.ntmps58]) (by kernel_rfl) ?_
  obtain ⟨t1, t2, t3⟩ := sT_le (dm := dm) hq hd hF hqQ
  obtain ⟨e1, e2, e3⟩ := sE_le (dm := dm) (sd := su - de) hq hd hs hF hqQ
  have pT := sTD_pos (dm := dm) (F := F) hq
  have w1 : IntKind.i64.wrap (su - de) = su - de := wr_id (by omega) (by omega)
  have rA := raWholeN (su - de) (by omega) (by omega)
  have rB := raWholeN dm (by omega) (by omega)
  have rM : Fn1 Tryd.prog 81 [.agg (rtA dm ((1 : Nat) : Int)), .agg (rtA F q)] (.agg (rtA (sTN dm F q) ((sTD dm F q : Nat) : Int))) := raMul dm F 1 q (by decide) hq (lt64 hd) (lt64 hF) (lt64 t1) (by omega)
  have rS : Fn1 Tryd.prog 80 [.agg (rtA (su - de) ((1 : Nat) : Int)), .agg (rtA (sTN dm F q) ((sTD dm F q : Nat) : Int))] (.agg (rtA (sEN dm (su - de) F q) ((sED dm (su - de) F q : Nat) : Int))) := raSub (su - de) (sTN dm F q) 1 (sTD dm F q) (by decide) pT (lt64 e1) (by omega) (by omega) (by omega)
  clear t1 t2 t3 e1 e2 e3 pT hd hs hF hqQ hq
  generalize sEN dm (su - de) F q = eN at *
  generalize sED dm (su - de) F q = eD at *
  generalize sTN dm F q = tN at *
  generalize sTD dm F q = tD at *
  unfold rtA igI igA isA at *
  conv => whnf
  repeat' (first
    | (refine NilG.mk fun bn hbn hbx => ?_; conv => whnf)
    | (refine Both.mk ?_ ?_ <;> conv => whnf)
    | ((first | (refine MkG.box 1 rfl rfl rfl (by decide) ?_) | (refine MkG.box 2 rfl rfl rfl (by decide) ?_) | (refine MkG.box 3 rfl rfl rfl (by decide) ?_) | (refine MkG.row ?_)); conv => whnf)
    | (refine LitG.row ?_; conv => whnf)
    | exact trivial
    | (refine Br.mk (fun hb => ?_) (fun hb => ?_) <;> (first | (exfalso; revert hb; decide) | ((try simp only [BL] at hb) <;> (try simp only [DL] at hb) <;> (first | (exfalso; omega) | (conv => whnf)))))
    | (refine And.intro ?_ ?_; (focus (first | exact id | exact rfl | exact trivial | (intro hg; first | exact hg | exact rfl | (simp; done) | (simp at hg ⊢; assumption)) | omega | decide | exact is2_c _ _ _ | exact is1_c _ _ | exact isS_c _ _ | exact isB_c _ _ | exact Nat.le_refl _ | assumption | exact mulLe (by decide) (by omega) | exact mulLe2 (by decide) (by omega) (by omega) | (intros; simp only [BL] at *; omega) | (intros; (try simp only [BL] at *); (try simp only [DL] at *); omega) | (intros; simp only [BL] at *; rw [wr_id (by omega) (by omega)]; omega) | (intro h1 h2; exact Bool.and_eq_true_iff.2 ⟨h1, h2⟩) | (intros; simp_all; done))); conv => whnf)
    | (refine Or.inr (And.intro rfl ?_); first | (refine congrArg intV ?_) | (refine congrArg boolV ?_) | (refine tupII ?_ ?_) | (refine tupIII ?_ ?_ ?_) | (refine tupU ?_ ?_ ?_ ?_ ?_) | exact rfl))
  all_goals repeat' (first
    | (rw [w1]; refine CallC.mk (Fn.mono rA ?_); rintro obs r ⟨rfl, rfl⟩; ((conv => whnf); repeat' (first | (refine NilG.mk fun bn hbn hbx => ?_; conv => whnf) | (refine Both.mk ?_ ?_ <;> conv => whnf) | ((first | (refine MkG.box 1 rfl rfl rfl (by decide) ?_) | (refine MkG.box 2 rfl rfl rfl (by decide) ?_) | (refine MkG.box 3 rfl rfl rfl (by decide) ?_) | (refine MkG.row ?_)); conv => whnf) | (refine LitG.row ?_; conv => whnf) | exact trivial | (refine Br.mk (fun hb => ?_) (fun hb => ?_) <;> (first | (exfalso; revert hb; decide) | ((try simp only [BL] at hb) <;> (try simp only [DL] at hb) <;> conv => whnf))) | (refine And.intro ?_ ?_; (focus (first | exact id | exact rfl | exact trivial | (intro hg; first | exact hg | exact rfl | (simp; done) | (simp at hg ⊢; assumption)) | omega | decide | exact is2_c _ _ _ | exact is1_c _ _ | exact isS_c _ _ | exact isB_c _ _ | exact Nat.le_refl _ | assumption | exact mulLe (by decide) (by omega) | exact mulLe2 (by decide) (by omega) (by omega) | (intros; simp only [BL] at *; omega) | (intros; (try simp only [BL] at *); (try simp only [DL] at *); omega) | (intros; simp only [BL] at *; rw [wr_id (by omega) (by omega)]; omega) | (intro h1 h2; exact Bool.and_eq_true_iff.2 ⟨h1, h2⟩) | (intros; simp_all; done))); conv => whnf) | (refine Or.inr (And.intro rfl ?_); first | (refine congrArg intV ?_) | (refine congrArg boolV ?_) | (refine tupII ?_ ?_) | (refine tupIII ?_ ?_ ?_) | (refine tupU ?_ ?_ ?_ ?_ ?_) | exact rfl))))
    | (refine CallC.mk (Fn.mono rB ?_); rintro obs r ⟨rfl, rfl⟩; ((conv => whnf); repeat' (first | (refine NilG.mk fun bn hbn hbx => ?_; conv => whnf) | (refine Both.mk ?_ ?_ <;> conv => whnf) | ((first | (refine MkG.box 1 rfl rfl rfl (by decide) ?_) | (refine MkG.box 2 rfl rfl rfl (by decide) ?_) | (refine MkG.box 3 rfl rfl rfl (by decide) ?_) | (refine MkG.row ?_)); conv => whnf) | (refine LitG.row ?_; conv => whnf) | exact trivial | (refine Br.mk (fun hb => ?_) (fun hb => ?_) <;> (first | (exfalso; revert hb; decide) | ((try simp only [BL] at hb) <;> (try simp only [DL] at hb) <;> conv => whnf))) | (refine And.intro ?_ ?_; (focus (first | exact id | exact rfl | exact trivial | (intro hg; first | exact hg | exact rfl | (simp; done) | (simp at hg ⊢; assumption)) | omega | decide | exact is2_c _ _ _ | exact is1_c _ _ | exact isS_c _ _ | exact isB_c _ _ | exact Nat.le_refl _ | assumption | exact mulLe (by decide) (by omega) | exact mulLe2 (by decide) (by omega) (by omega) | (intros; simp only [BL] at *; omega) | (intros; (try simp only [BL] at *); (try simp only [DL] at *); omega) | (intros; simp only [BL] at *; rw [wr_id (by omega) (by omega)]; omega) | (intro h1 h2; exact Bool.and_eq_true_iff.2 ⟨h1, h2⟩) | (intros; simp_all; done))); conv => whnf) | (refine Or.inr (And.intro rfl ?_); first | (refine congrArg intV ?_) | (refine congrArg boolV ?_) | (refine tupII ?_ ?_) | (refine tupIII ?_ ?_ ?_) | (refine tupU ?_ ?_ ?_ ?_ ?_) | exact rfl))))
    | (refine CallC.mk (Fn.mono rM ?_); rintro obs r ⟨rfl, rfl⟩; ((conv => whnf); repeat' (first | (refine NilG.mk fun bn hbn hbx => ?_; conv => whnf) | (refine Both.mk ?_ ?_ <;> conv => whnf) | ((first | (refine MkG.box 1 rfl rfl rfl (by decide) ?_) | (refine MkG.box 2 rfl rfl rfl (by decide) ?_) | (refine MkG.box 3 rfl rfl rfl (by decide) ?_) | (refine MkG.row ?_)); conv => whnf) | (refine LitG.row ?_; conv => whnf) | exact trivial | (refine Br.mk (fun hb => ?_) (fun hb => ?_) <;> (first | (exfalso; revert hb; decide) | ((try simp only [BL] at hb) <;> (try simp only [DL] at hb) <;> conv => whnf))) | (refine And.intro ?_ ?_; (focus (first | exact id | exact rfl | exact trivial | (intro hg; first | exact hg | exact rfl | (simp; done) | (simp at hg ⊢; assumption)) | omega | decide | exact is2_c _ _ _ | exact is1_c _ _ | exact isS_c _ _ | exact isB_c _ _ | exact Nat.le_refl _ | assumption | exact mulLe (by decide) (by omega) | exact mulLe2 (by decide) (by omega) (by omega) | (intros; simp only [BL] at *; omega) | (intros; (try simp only [BL] at *); (try simp only [DL] at *); omega) | (intros; simp only [BL] at *; rw [wr_id (by omega) (by omega)]; omega) | (intro h1 h2; exact Bool.and_eq_true_iff.2 ⟨h1, h2⟩) | (intros; simp_all; done))); conv => whnf) | (refine Or.inr (And.intro rfl ?_); first | (refine congrArg intV ?_) | (refine congrArg boolV ?_) | (refine tupII ?_ ?_) | (refine tupIII ?_ ?_ ?_) | (refine tupU ?_ ?_ ?_ ?_ ?_) | exact rfl))))
    | (refine CallC.mk (Fn.mono rS ?_); rintro obs r ⟨rfl, rfl⟩; ((conv => whnf); repeat' (first | (refine NilG.mk fun bn hbn hbx => ?_; conv => whnf) | (refine Both.mk ?_ ?_ <;> conv => whnf) | ((first | (refine MkG.box 1 rfl rfl rfl (by decide) ?_) | (refine MkG.box 2 rfl rfl rfl (by decide) ?_) | (refine MkG.box 3 rfl rfl rfl (by decide) ?_) | (refine MkG.row ?_)); conv => whnf) | (refine LitG.row ?_; conv => whnf) | exact trivial | (refine Br.mk (fun hb => ?_) (fun hb => ?_) <;> (first | (exfalso; revert hb; decide) | ((try simp only [BL] at hb) <;> (try simp only [DL] at hb) <;> conv => whnf))) | (refine And.intro ?_ ?_; (focus (first | exact id | exact rfl | exact trivial | (intro hg; first | exact hg | exact rfl | (simp; done) | (simp at hg ⊢; assumption)) | omega | decide | exact is2_c _ _ _ | exact is1_c _ _ | exact isS_c _ _ | exact isB_c _ _ | exact Nat.le_refl _ | assumption | exact mulLe (by decide) (by omega) | exact mulLe2 (by decide) (by omega) (by omega) | (intros; simp only [BL] at *; omega) | (intros; (try simp only [BL] at *); (try simp only [DL] at *); omega) | (intros; simp only [BL] at *; rw [wr_id (by omega) (by omega)]; omega) | (intro h1 h2; exact Bool.and_eq_true_iff.2 ⟨h1, h2⟩) | (intros; simp_all; done))); conv => whnf) | (refine Or.inr (And.intro rfl ?_); first | (refine congrArg intV ?_) | (refine congrArg boolV ?_) | (refine tupII ?_ ?_) | (refine tupIII ?_ ?_ ?_) | (refine tupU ?_ ?_ ?_ ?_ ?_) | exact rfl)))))
theorem swOut (n lo hi : Int) : Fn1 Tryd.prog 74 [intV n, intV lo, intV hi] (boolV (decide (n < lo) || decide (n > hi))) := by
  refine fn_of_wpx (O := lex) tab_ok gamSw_ok mixed Tryd.func74 (by kernel_rfl) rfl rfl rfl (by simp [Tryd.ntmps74]) (by kernel_rfl) ?_
  conv => whnf
  repeat' (first
    | (refine NilG.mk fun bn hbn hbx => ?_; conv => whnf)
    | (refine Both.mk ?_ ?_ <;> conv => whnf)
    | ((first | (refine MkG.box 1 rfl rfl rfl (by decide) ?_) | (refine MkG.box 2 rfl rfl rfl (by decide) ?_) | (refine MkG.box 3 rfl rfl rfl (by decide) ?_) | (refine MkG.row ?_)); conv => whnf)
    | (refine LitG.row ?_; conv => whnf)
    | exact trivial
    | (refine Br.mk (fun hb => ?_) (fun hb => ?_) <;> (first | (exfalso; revert hb; decide) | ((try simp only [BL] at hb) <;> (try simp only [DL] at hb) <;> conv => whnf)))
    | (refine And.intro ?_ ?_; (focus (first | exact id | exact rfl | exact trivial | (intro hg; first | exact hg | exact rfl | (simp; done) | (simp at hg ⊢; assumption)) | omega | decide | exact is2_c _ _ _ | exact is1_c _ _ | exact isS_c _ _ | exact isB_c _ _ | exact Nat.le_refl _ | assumption | exact mulLe (by decide) (by omega) | exact mulLe2 (by decide) (by omega) (by omega) | (intros; simp only [BL] at *; omega) | (intros; (try simp only [BL] at *); (try simp only [DL] at *); omega) | (intros; simp only [BL] at *; rw [wr_id (by omega) (by omega)]; omega) | (intro h1 h2; exact Bool.and_eq_true_iff.2 ⟨h1, h2⟩) | (intros; simp_all; done))); conv => whnf)
    | (refine Or.inr (And.intro rfl ?_); first | (refine congrArg intV ?_) | (refine congrArg boolV ?_) | (refine tupII ?_ ?_) | (refine tupIII ?_ ?_ ?_) | (refine tupU ?_ ?_ ?_ ?_ ?_) | exact rfl))
  all_goals rfl
theorem swOutF (n lo hi : Int) (h0 : lo ≤ n) (h1 : n ≤ hi) : Fn1 Tryd.prog 74 [intV n, intV lo, intV hi] (boolV false) := by
  have h := swOut n lo hi
  have e : (decide (n < lo) || decide (n > hi)) = false := by simp; omega
  rw [e] at h
  exact h
set_option maxRecDepth 100000 in
set_option maxHeartbeats 4000000 in
theorem swCheck (M : Nat) (dm su de f : Int) (hM : 1 ≤ M) (hM2 : M ≤ 20) (hd0 : 0 ≤ dm) (hd : dm ≤ M) (hs0 : 0 ≤ su) (hs1 : su ≤ 500) (he0 : 0 ≤ de) (he1 : de ≤ 500) (hf : f.natAbs < 1000000000) : Fn1 Tryd.prog 55 [.agg (isA M dm su de (sI f))] (intV 0) := by
  refine fn_of_wpx (O := lex) tab_ok gamSw_ok mixed Tryd.func55 (by kernel_rfl) rfl rfl rfl (by simp [Tryd.ntmps55]) (by kernel_rfl) ?_
  have r1 := swOutF (M : Int) 1 1000 (by omega) (by omega)
  have r2 := swOutF dm 0 (M : Int) (by omega) (by omega)
  have r3 := swOutF su 0 100000 (by omega) (by omega)
  have r4 := swOutF de 0 100000 (by omega) (by omega)
  have r5 := rdChkI f hf
  generalize sI f = fr at *
  unfold isA
  conv => whnf
  repeat' (first
    | (refine NilG.mk fun bn hbn hbx => ?_; conv => whnf)
    | (refine Both.mk ?_ ?_ <;> conv => whnf)
    | ((first | (refine MkG.box 1 rfl rfl rfl (by decide) ?_) | (refine MkG.box 2 rfl rfl rfl (by decide) ?_) | (refine MkG.box 3 rfl rfl rfl (by decide) ?_) | (refine MkG.row ?_)); conv => whnf)
    | (refine LitG.row ?_; conv => whnf)
    | exact trivial
    | (refine Br.mk (fun hb => ?_) (fun hb => ?_) <;> (first | (exfalso; revert hb; decide) | ((try simp only [BL] at hb) <;> (try simp only [DL] at hb) <;> conv => whnf)))
    | (refine And.intro ?_ ?_; (focus (first | exact id | exact rfl | exact trivial | (intro hg; first | exact hg | exact rfl | (simp; done) | (simp at hg ⊢; assumption)) | omega | decide | exact is2_c _ _ _ | exact is1_c _ _ | exact isS_c _ _ | exact isB_c _ _ | exact Nat.le_refl _ | assumption | exact mulLe (by decide) (by omega) | exact mulLe2 (by decide) (by omega) (by omega) | (intros; simp only [BL] at *; omega) | (intros; (try simp only [BL] at *); (try simp only [DL] at *); omega) | (intros; simp only [BL] at *; rw [wr_id (by omega) (by omega)]; omega) | (intro h1 h2; exact Bool.and_eq_true_iff.2 ⟨h1, h2⟩) | (intros; simp_all; done))); conv => whnf)
    | (refine Or.inr (And.intro rfl ?_); first | (refine congrArg intV ?_) | (refine congrArg boolV ?_) | (refine tupII ?_ ?_) | (refine tupIII ?_ ?_ ?_) | (refine tupU ?_ ?_ ?_ ?_ ?_) | exact rfl))
  all_goals repeat' (first
    | (refine CallG.mk (Fn.mono r1 ?_); rintro obs r ⟨rfl, rfl⟩; ((conv => whnf); repeat' (first | (refine NilG.mk fun bn hbn hbx => ?_; conv => whnf) | (refine Both.mk ?_ ?_ <;> conv => whnf) | ((first | (refine MkG.box 1 rfl rfl rfl (by decide) ?_) | (refine MkG.box 2 rfl rfl rfl (by decide) ?_) | (refine MkG.box 3 rfl rfl rfl (by decide) ?_) | (refine MkG.row ?_)); conv => whnf) | (refine LitG.row ?_; conv => whnf) | exact trivial | (refine Br.mk (fun hb => ?_) (fun hb => ?_) <;> (first | (exfalso; revert hb; decide) | ((try simp only [BL] at hb) <;> (try simp only [DL] at hb) <;> conv => whnf))) | (refine And.intro ?_ ?_; (focus (first | exact id | exact rfl | exact trivial | (intro hg; first | exact hg | exact rfl | (simp; done) | (simp at hg ⊢; assumption)) | omega | decide | exact is2_c _ _ _ | exact is1_c _ _ | exact isS_c _ _ | exact isB_c _ _ | exact Nat.le_refl _ | assumption | exact mulLe (by decide) (by omega) | exact mulLe2 (by decide) (by omega) (by omega) | (intros; simp only [BL] at *; omega) | (intros; (try simp only [BL] at *); (try simp only [DL] at *); omega) | (intros; simp only [BL] at *; rw [wr_id (by omega) (by omega)]; omega) | (intro h1 h2; exact Bool.and_eq_true_iff.2 ⟨h1, h2⟩) | (intros; simp_all; done))); conv => whnf) | (refine Or.inr (And.intro rfl ?_); first | (refine congrArg intV ?_) | (refine congrArg boolV ?_) | (refine tupII ?_ ?_) | (refine tupIII ?_ ?_ ?_) | (refine tupU ?_ ?_ ?_ ?_ ?_) | exact rfl))))
    | (refine CallG.mk (Fn.mono r2 ?_); rintro obs r ⟨rfl, rfl⟩; ((conv => whnf); repeat' (first | (refine NilG.mk fun bn hbn hbx => ?_; conv => whnf) | (refine Both.mk ?_ ?_ <;> conv => whnf) | ((first | (refine MkG.box 1 rfl rfl rfl (by decide) ?_) | (refine MkG.box 2 rfl rfl rfl (by decide) ?_) | (refine MkG.box 3 rfl rfl rfl (by decide) ?_) | (refine MkG.row ?_)); conv => whnf) | (refine LitG.row ?_; conv => whnf) | exact trivial | (refine Br.mk (fun hb => ?_) (fun hb => ?_) <;> (first | (exfalso; revert hb; decide) | ((try simp only [BL] at hb) <;> (try simp only [DL] at hb) <;> conv => whnf))) | (refine And.intro ?_ ?_; (focus (first | exact id | exact rfl | exact trivial | (intro hg; first | exact hg | exact rfl | (simp; done) | (simp at hg ⊢; assumption)) | omega | decide | exact is2_c _ _ _ | exact is1_c _ _ | exact isS_c _ _ | exact isB_c _ _ | exact Nat.le_refl _ | assumption | exact mulLe (by decide) (by omega) | exact mulLe2 (by decide) (by omega) (by omega) | (intros; simp only [BL] at *; omega) | (intros; (try simp only [BL] at *); (try simp only [DL] at *); omega) | (intros; simp only [BL] at *; rw [wr_id (by omega) (by omega)]; omega) | (intro h1 h2; exact Bool.and_eq_true_iff.2 ⟨h1, h2⟩) | (intros; simp_all; done))); conv => whnf) | (refine Or.inr (And.intro rfl ?_); first | (refine congrArg intV ?_) | (refine congrArg boolV ?_) | (refine tupII ?_ ?_) | (refine tupIII ?_ ?_ ?_) | (refine tupU ?_ ?_ ?_ ?_ ?_) | exact rfl))))
    | (refine CallG.mk (Fn.mono r3 ?_); rintro obs r ⟨rfl, rfl⟩; ((conv => whnf); repeat' (first | (refine NilG.mk fun bn hbn hbx => ?_; conv => whnf) | (refine Both.mk ?_ ?_ <;> conv => whnf) | ((first | (refine MkG.box 1 rfl rfl rfl (by decide) ?_) | (refine MkG.box 2 rfl rfl rfl (by decide) ?_) | (refine MkG.box 3 rfl rfl rfl (by decide) ?_) | (refine MkG.row ?_)); conv => whnf) | (refine LitG.row ?_; conv => whnf) | exact trivial | (refine Br.mk (fun hb => ?_) (fun hb => ?_) <;> (first | (exfalso; revert hb; decide) | ((try simp only [BL] at hb) <;> (try simp only [DL] at hb) <;> conv => whnf))) | (refine And.intro ?_ ?_; (focus (first | exact id | exact rfl | exact trivial | (intro hg; first | exact hg | exact rfl | (simp; done) | (simp at hg ⊢; assumption)) | omega | decide | exact is2_c _ _ _ | exact is1_c _ _ | exact isS_c _ _ | exact isB_c _ _ | exact Nat.le_refl _ | assumption | exact mulLe (by decide) (by omega) | exact mulLe2 (by decide) (by omega) (by omega) | (intros; simp only [BL] at *; omega) | (intros; (try simp only [BL] at *); (try simp only [DL] at *); omega) | (intros; simp only [BL] at *; rw [wr_id (by omega) (by omega)]; omega) | (intro h1 h2; exact Bool.and_eq_true_iff.2 ⟨h1, h2⟩) | (intros; simp_all; done))); conv => whnf) | (refine Or.inr (And.intro rfl ?_); first | (refine congrArg intV ?_) | (refine congrArg boolV ?_) | (refine tupII ?_ ?_) | (refine tupIII ?_ ?_ ?_) | (refine tupU ?_ ?_ ?_ ?_ ?_) | exact rfl))))
    | (refine CallG.mk (Fn.mono r4 ?_); rintro obs r ⟨rfl, rfl⟩; ((conv => whnf); repeat' (first | (refine NilG.mk fun bn hbn hbx => ?_; conv => whnf) | (refine Both.mk ?_ ?_ <;> conv => whnf) | ((first | (refine MkG.box 1 rfl rfl rfl (by decide) ?_) | (refine MkG.box 2 rfl rfl rfl (by decide) ?_) | (refine MkG.box 3 rfl rfl rfl (by decide) ?_) | (refine MkG.row ?_)); conv => whnf) | (refine LitG.row ?_; conv => whnf) | exact trivial | (refine Br.mk (fun hb => ?_) (fun hb => ?_) <;> (first | (exfalso; revert hb; decide) | ((try simp only [BL] at hb) <;> (try simp only [DL] at hb) <;> conv => whnf))) | (refine And.intro ?_ ?_; (focus (first | exact id | exact rfl | exact trivial | (intro hg; first | exact hg | exact rfl | (simp; done) | (simp at hg ⊢; assumption)) | omega | decide | exact is2_c _ _ _ | exact is1_c _ _ | exact isS_c _ _ | exact isB_c _ _ | exact Nat.le_refl _ | assumption | exact mulLe (by decide) (by omega) | exact mulLe2 (by decide) (by omega) (by omega) | (intros; simp only [BL] at *; omega) | (intros; (try simp only [BL] at *); (try simp only [DL] at *); omega) | (intros; simp only [BL] at *; rw [wr_id (by omega) (by omega)]; omega) | (intro h1 h2; exact Bool.and_eq_true_iff.2 ⟨h1, h2⟩) | (intros; simp_all; done))); conv => whnf) | (refine Or.inr (And.intro rfl ?_); first | (refine congrArg intV ?_) | (refine congrArg boolV ?_) | (refine tupII ?_ ?_) | (refine tupIII ?_ ?_ ?_) | (refine tupU ?_ ?_ ?_ ?_ ?_) | exact rfl))))
    | (refine CallG.mk (Fn.mono r5 ?_); rintro obs r ⟨rfl, rfl⟩; ((conv => whnf); repeat' (first | (refine NilG.mk fun bn hbn hbx => ?_; conv => whnf) | (refine Both.mk ?_ ?_ <;> conv => whnf) | ((first | (refine MkG.box 1 rfl rfl rfl (by decide) ?_) | (refine MkG.box 2 rfl rfl rfl (by decide) ?_) | (refine MkG.box 3 rfl rfl rfl (by decide) ?_) | (refine MkG.row ?_)); conv => whnf) | (refine LitG.row ?_; conv => whnf) | exact trivial | (refine Br.mk (fun hb => ?_) (fun hb => ?_) <;> (first | (exfalso; revert hb; decide) | ((try simp only [BL] at hb) <;> (try simp only [DL] at hb) <;> conv => whnf))) | (refine And.intro ?_ ?_; (focus (first | exact id | exact rfl | exact trivial | (intro hg; first | exact hg | exact rfl | (simp; done) | (simp at hg ⊢; assumption)) | omega | decide | exact is2_c _ _ _ | exact is1_c _ _ | exact isS_c _ _ | exact isB_c _ _ | exact Nat.le_refl _ | assumption | exact mulLe (by decide) (by omega) | exact mulLe2 (by decide) (by omega) (by omega) | (intros; simp only [BL] at *; omega) | (intros; (try simp only [BL] at *); (try simp only [DL] at *); omega) | (intros; simp only [BL] at *; rw [wr_id (by omega) (by omega)]; omega) | (intro h1 h2; exact Bool.and_eq_true_iff.2 ⟨h1, h2⟩) | (intros; simp_all; done))); conv => whnf) | (refine Or.inr (And.intro rfl ?_); first | (refine congrArg intV ?_) | (refine congrArg boolV ?_) | (refine tupII ?_ ?_) | (refine tupIII ?_ ?_ ?_) | (refine tupU ?_ ?_ ?_ ?_ ?_) | exact rfl))))
    | (refine And.intro (fun hg => ?_) (fun hg => absurd hg (by decide)); ((conv => whnf); repeat' (first | (refine NilG.mk fun bn hbn hbx => ?_; conv => whnf) | (refine Both.mk ?_ ?_ <;> conv => whnf) | ((first | (refine MkG.box 1 rfl rfl rfl (by decide) ?_) | (refine MkG.box 2 rfl rfl rfl (by decide) ?_) | (refine MkG.box 3 rfl rfl rfl (by decide) ?_) | (refine MkG.row ?_)); conv => whnf) | (refine LitG.row ?_; conv => whnf) | exact trivial | (refine Br.mk (fun hb => ?_) (fun hb => ?_) <;> (first | (exfalso; revert hb; decide) | ((try simp only [BL] at hb) <;> (try simp only [DL] at hb) <;> conv => whnf))) | (refine And.intro ?_ ?_; (focus (first | exact id | exact rfl | exact trivial | (intro hg; first | exact hg | exact rfl | (simp; done) | (simp at hg ⊢; assumption)) | omega | decide | exact is2_c _ _ _ | exact is1_c _ _ | exact isS_c _ _ | exact isB_c _ _ | exact Nat.le_refl _ | assumption | exact mulLe (by decide) (by omega) | exact mulLe2 (by decide) (by omega) (by omega) | (intros; simp only [BL] at *; omega) | (intros; (try simp only [BL] at *); (try simp only [DL] at *); omega) | (intros; simp only [BL] at *; rw [wr_id (by omega) (by omega)]; omega) | (intro h1 h2; exact Bool.and_eq_true_iff.2 ⟨h1, h2⟩) | (intros; simp_all; done))); conv => whnf) | (refine Or.inr (And.intro rfl ?_); first | (refine congrArg intV ?_) | (refine congrArg boolV ?_) | (refine tupII ?_ ?_) | (refine tupIII ?_ ?_ ?_) | (refine tupU ?_ ?_ ?_ ?_ ?_) | exact rfl)))))
  all_goals rfl
/-- the text after k + 1 steps -/
def swT (M : Nat) (dm sd f : Int) (k : Nat) : ByteArray := rT (swN M dm sd f (k + 1)) (swD M dm sd f (k + 1))
/-- a row of texts -/
def cSw (M : Nat) (dm sd f : Int) : Nat → Nat → L := fun k _ => .v (.string (swT M dm sd f k))
set_option maxRecDepth 100000 in
set_option maxHeartbeats 8000000 in
theorem swRun (M n : Nat) (dm su de f : Int) (hM : 1 ≤ M) (hM2 : M ≤ 20) (hd0 : 0 ≤ dm) (hd : dm ≤ M) (hs0 : 0 ≤ su) (hs1 : su ≤ 500) (he0 : 0 ≤ de) (he1 : de ≤ 500) (hf : f.natAbs ≤ 300) (hn : n ≤ 6) : FnT Tryd.prog pwG pwC 30 [.agg (isA M dm su de (sI f)), intV (n : Int)] (fun obs r => obs = [] ∧ r = .tup [.c (.sl 1 n (cSw M dm (su - de) f)), intV 0]) := by
  refine fnT_of_wpx (O := oSr) tab_ok gamSw_ok mixed Tryd.func30 (by kernel_rfl) rfl rfl rfl (by simp [Tryd.ntmps30]) (by kernel_rfl) ?_
  have r1 := swCheck M dm su de f hM hM2 hd0 hd hs0 hs1 he0 he1 (by omega)
  have r2 := rdParI f (by omega)
  obtain ⟨b1, b2⟩ := sw_0 (M := M) (dm := dm) (sd := su - de) (f := f)
  have r2' : Fn1 Tryd.prog 56 [strV (sI f)] (.agg (rtA (swN M dm (su - de) f 0) ((swD M dm (su - de) f 0 : Nat) : Int))) := by
    rw [b1, b2]
    exact r2
  clear r2 b1 b2
  generalize sI f = fr at *
  unfold rtA igI igA isA at *
  conv => whnf
  repeat' (first
    | (refine NilG.mk fun bn hbn hbx => ?_; conv => whnf)
    | (refine Both.mk ?_ ?_ <;> conv => whnf)
    | ((first | (refine MkG.box 1 rfl rfl rfl (by decide) ?_) | (refine MkG.box 2 rfl rfl rfl (by decide) ?_) | (refine MkG.box 3 rfl rfl rfl (by decide) ?_) | (refine MkG.row ?_)); conv => whnf)
    | (refine LitG.row ?_; conv => whnf)
    | exact trivial
    | (refine Br.mk (fun hb => ?_) (fun hb => ?_) <;> (first | (exfalso; revert hb; decide) | ((try simp only [BL] at hb) <;> (try simp only [DL] at hb) <;> (first | (exfalso; omega) | (conv => whnf)))))
    | (refine And.intro ?_ ?_; (focus (first | exact id | exact rfl | exact trivial | (intro hg; first | exact hg | exact rfl | (simp; done) | (simp at hg ⊢; assumption)) | omega | decide | exact is2_c _ _ _ | exact is1_c _ _ | exact isS_c _ _ | exact isB_c _ _ | exact Nat.le_refl _ | assumption | exact mulLe (by decide) (by omega) | exact mulLe2 (by decide) (by omega) (by omega) | (intros; simp only [BL] at *; omega) | (intros; (try simp only [BL] at *); (try simp only [DL] at *); omega) | (intros; simp only [BL] at *; rw [wr_id (by omega) (by omega)]; omega) | (intro h1 h2; exact Bool.and_eq_true_iff.2 ⟨h1, h2⟩) | (intros; simp_all; done))); conv => whnf)
    | (refine Or.inr (And.intro rfl ?_); first | (refine congrArg intV ?_) | (refine congrArg boolV ?_) | (refine tupII ?_ ?_) | (refine tupIII ?_ ?_ ?_) | (refine tupU ?_ ?_ ?_ ?_ ?_) | exact rfl))
  refine CallG.mk (Fn.mono r1 ?_)
  rintro obs r ⟨rfl, rfl⟩
  conv => whnf
  repeat' (first
    | (refine NilG.mk fun bn hbn hbx => ?_; conv => whnf)
    | (refine Both.mk ?_ ?_ <;> conv => whnf)
    | ((first | (refine MkG.box 1 rfl rfl rfl (by decide) ?_) | (refine MkG.box 2 rfl rfl rfl (by decide) ?_) | (refine MkG.box 3 rfl rfl rfl (by decide) ?_) | (refine MkG.row ?_)); conv => whnf)
    | (refine LitG.row ?_; conv => whnf)
    | exact trivial
    | (refine Br.mk (fun hb => ?_) (fun hb => ?_) <;> (first | (exfalso; revert hb; decide) | ((try simp only [BL] at hb) <;> (try simp only [DL] at hb) <;> (first | (exfalso; omega) | (conv => whnf)))))
    | (refine And.intro ?_ ?_; (focus (first | exact id | exact rfl | exact trivial | (intro hg; first | exact hg | exact rfl | (simp; done) | (simp at hg ⊢; assumption)) | omega | decide | exact is2_c _ _ _ | exact is1_c _ _ | exact isS_c _ _ | exact isB_c _ _ | exact Nat.le_refl _ | assumption | exact mulLe (by decide) (by omega) | exact mulLe2 (by decide) (by omega) (by omega) | (intros; simp only [BL] at *; omega) | (intros; (try simp only [BL] at *); (try simp only [DL] at *); omega) | (intros; simp only [BL] at *; rw [wr_id (by omega) (by omega)]; omega) | (intro h1 h2; exact Bool.and_eq_true_iff.2 ⟨h1, h2⟩) | (intros; simp_all; done))); conv => whnf)
    | (refine Or.inr (And.intro rfl ?_); first | (refine congrArg intV ?_) | (refine congrArg boolV ?_) | (refine tupII ?_ ?_) | (refine tupIII ?_ ?_ ?_) | (refine tupU ?_ ?_ ?_ ?_ ?_) | exact rfl))
  refine CallC.mk (Fn.mono r2' ?_)
  rintro obs r ⟨rfl, rfl⟩
  conv => whnf
  repeat' (first
    | (refine NilG.mk fun bn hbn hbx => ?_; conv => whnf)
    | (refine Both.mk ?_ ?_ <;> conv => whnf)
    | ((first | (refine MkG.box 1 rfl rfl rfl (by decide) ?_) | (refine MkG.box 2 rfl rfl rfl (by decide) ?_) | (refine MkG.box 3 rfl rfl rfl (by decide) ?_) | (refine MkG.row ?_)); conv => whnf)
    | (refine LitG.row ?_; conv => whnf)
    | exact trivial
    | (refine Br.mk (fun hb => ?_) (fun hb => ?_) <;> (first | (exfalso; revert hb; decide) | ((try simp only [BL] at hb) <;> (try simp only [DL] at hb) <;> (first | (exfalso; omega) | (conv => whnf)))))
    | (refine And.intro ?_ ?_; (focus (first | exact id | exact rfl | exact trivial | (intro hg; first | exact hg | exact rfl | (simp; done) | (simp at hg ⊢; assumption)) | omega | decide | exact is2_c _ _ _ | exact is1_c _ _ | exact isS_c _ _ | exact isB_c _ _ | exact Nat.le_refl _ | assumption | exact mulLe (by decide) (by omega) | exact mulLe2 (by decide) (by omega) (by omega) | (intros; simp only [BL] at *; omega) | (intros; (try simp only [BL] at *); (try simp only [DL] at *); omega) | (intros; simp only [BL] at *; rw [wr_id (by omega) (by omega)]; omega) | (intro h1 h2; exact Bool.and_eq_true_iff.2 ⟨h1, h2⟩) | (intros; simp_all; done))); conv => whnf)
    | (refine Or.inr (And.intro rfl ?_); first | (refine congrArg intV ?_) | (refine congrArg boolV ?_) | (refine tupII ?_ ?_) | (refine tupIII ?_ ?_ ?_) | (refine tupU ?_ ?_ ?_ ?_ ?_) | exact rfl))
  refine LoopG.nil 8 40 1 rfl ?_
  refine sem_loop tab_ok gamSw_ok mixed (by kernel_rfl) (O := oSr) (fun k : Nat => ⟨[(2, .lp 0 0), (7, .lp 1 0), (8, .own 2), (25, intV (n : Int)), (26, intV (k : Int)), (1000000, .gt pwG pwC)], [.box (isA M dm su de fr), .box (rtA (swN M dm (su - de) f k) ((swD M dm (su - de) f k : Nat) : Int)), .row 40 1 k false (cSw M dm (su - de) f)]⟩) (fun k => k ≤ n) (fun k => n - k) ⟨0, [?_, ?_, ?_], Nat.zero_le _, ?_⟩ fun k hk => ?_
  rotate_left 3
  · refine Sub.of ?_ ?_ ?_
    repeat' (first | (refine And.intro ?_ ?_) | exact trivial | exact fun _ _ _ => hsc _ _ | (exact congrArg intV (by first | with_reducible rfl | with_reducible assumption)) | exact (rfl : AV.idsLt _ _ = true) | exact (rfl : _ = AV.ren _ (.own _)) | exact (rfl : _ = AV.ren _ (.fn _ _)) | exact (rfl : _ = AV.ren _ (.gh _)) | (exact congrArg intV (by assumption)) | (refine congrArg intV ((wr_id (by omega) (by omega)).trans (by omega))) | exact rfl | (simp only [NLc]; first | exact rfl | done) | exact all0 | exact fun h => Bool.noConfusion h | exact fun _ _ _ _ => rfl | omega)
  rcases Nat.lt_or_ge k n with hkn | hkn
  · have hS : (su - de).natAbs ≤ 500 := by omega
    obtain ⟨b1, b2, b3⟩ := sw_bnd hM hM2 hd0 hd hS hf (k := k) (by omega)
    obtain ⟨c1, c2, c3⟩ := sw_bnd6 hM hM2 hd0 hd hS hf (k := k) (by omega)
    have c4 : (swN M dm (su - de) f (k + 1)).natAbs < 1000000000 ^ 2 := Nat.lt_of_le_of_lt (Nat.le_trans (redN_le c3) c1) (by decide)
    have c5 : swD M dm (su - de) f (k + 1) < 1000000000 ^ 2 := Nat.lt_of_le_of_lt (Nat.le_trans (redD_le _ _) c2) (by decide)
    obtain ⟨g1, g2⟩ := sw_succ (dm := dm) (sd := su - de) (f := f) hM k
    have rX := swText _ _ c4 c5
    have rE := swExcess M (swD M dm (su - de) f k) dm su de (swN M dm (su - de) f k) fr b3 (by omega) hS b1 b2
    have rW := raWholeN (M : Int) (by omega) (by omega)
    have hdm : dm.natAbs ≤ 20 := by omega
    generalize hF : swN M dm (su - de) f k = F at *
    generalize hq : swD M dm (su - de) f k = q at *
    obtain ⟨e1, e2, e3⟩ := sE_le (dm := dm) (sd := su - de) b3 hdm hS b1 b2
    obtain ⟨h1, h2, h3⟩ := sH_le (M := M) (dm := dm) (sd := su - de) hM hM2 b3 hdm hS b1 b2
    obtain ⟨f1, f2, f3⟩ := sF_le (M := M) (dm := dm) (sd := su - de) hM hM2 b3 hdm hS b1 b2
    have pE := sED_pos (dm := dm) (sd := su - de) (F := F) b3
    have pH := sHD_pos (M := M) (dm := dm) (sd := su - de) (F := F) hM b3
    have rD : Fn1 Tryd.prog 59 [.agg (rtA (sEN dm (su - de) F q) ((sED dm (su - de) F q : Nat) : Int)), .agg (rtA (M : Int) ((1 : Nat) : Int))] (.agg (rtA (sHN M dm (su - de) F q) ((sHD M dm (su - de) F q : Nat) : Int))) := raDiv _ M _ 1 pE (by decide) hM (by rw [show ((1 : Nat) : Int) = 1 from rfl, Int.mul_one]; exact lt64 e2) (lt64 h1) (by decide)
    have rA : Fn1 Tryd.prog 57 [.agg (rtA F q), .agg (rtA (sHN M dm (su - de) F q) ((sHD M dm (su - de) F q : Nat) : Int))] (.agg (rtA (sFN M dm (su - de) F q) ((sFD M dm (su - de) F q : Nat) : Int))) := raAdd F _ q _ b3 pH (lt64 f1) (lt64 f2) (Nat.lt_of_le_of_lt (Int.natAbs_add_le _ _) (by omega)) (lt64 f3)
    rw [g1, g2] at rA
    clear g1 g2 c1 c2 c3 c4 c5 e1 e2 e3 h1 h2 h3 f1 f2 f3 pE pH b1 b2 b3 hdm hS r1 r2'
    subst hF hq
    generalize hN1 : swN M dm (su - de) f (k + 1) = N1 at *
    generalize hD1 : swD M dm (su - de) f (k + 1) = D1 at *
    generalize sEN dm (su - de) (swN M dm (su - de) f k) (swD M dm (su - de) f k) = eN at *
    generalize sED dm (su - de) (swN M dm (su - de) f k) (swD M dm (su - de) f k) = eD at *
    generalize sHN M dm (su - de) (swN M dm (su - de) f k) (swD M dm (su - de) f k) = hN at *
    generalize sHD M dm (su - de) (swN M dm (su - de) f k) (swD M dm (su - de) f k) = hD at *
    generalize swN M dm (su - de) f k = F at *
    generalize swD M dm (su - de) f k = q at *
    unfold rtA igI igA isA at *
    conv => whnf
    repeat' (first
      | (refine NilG.mk fun bn hbn hbx => ?_; conv => whnf)
      | (refine Both.mk ?_ ?_ <;> conv => whnf)
      | ((first | (refine MkG.box 1 rfl rfl rfl (by decide) ?_) | (refine MkG.box 2 rfl rfl rfl (by decide) ?_) | (refine MkG.box 3 rfl rfl rfl (by decide) ?_) | (refine MkG.row ?_)); conv => whnf)
      | (refine LitG.row ?_; conv => whnf)
      | exact trivial
      | (refine Br.mk (fun hb => ?_) (fun hb => ?_) <;> (first | (exfalso; revert hb; decide) | ((try simp only [BL] at hb) <;> (try simp only [DL] at hb) <;> (first | (exfalso; omega) | (conv => whnf)))))
      | (refine And.intro ?_ ?_; (focus (first | exact id | exact rfl | exact trivial | (intro hg; first | exact hg | exact rfl | (simp; done) | (simp at hg ⊢; assumption)) | omega | decide | exact is2_c _ _ _ | exact is1_c _ _ | exact isS_c _ _ | exact isB_c _ _ | exact Nat.le_refl _ | assumption | exact mulLe (by decide) (by omega) | exact mulLe2 (by decide) (by omega) (by omega) | (intros; simp only [BL] at *; omega) | (intros; (try simp only [BL] at *); (try simp only [DL] at *); omega) | (intros; simp only [BL] at *; rw [wr_id (by omega) (by omega)]; omega) | (intro h1 h2; exact Bool.and_eq_true_iff.2 ⟨h1, h2⟩) | (intros; simp_all; done))); conv => whnf)
      | (refine Or.inr (And.intro rfl ?_); first | (refine congrArg intV ?_) | (refine congrArg boolV ?_) | (refine tupII ?_ ?_) | (refine tupIII ?_ ?_ ?_) | (refine tupU ?_ ?_ ?_ ?_ ?_) | exact rfl))
    all_goals repeat' (first
      | (refine CallC.mk (Fn.mono rE ?_); rintro obs r ⟨rfl, rfl⟩; ((conv => whnf); repeat' (first | (refine NilG.mk fun bn hbn hbx => ?_; conv => whnf) | (refine Both.mk ?_ ?_ <;> conv => whnf) | ((first | (refine MkG.box 1 rfl rfl rfl (by decide) ?_) | (refine MkG.box 2 rfl rfl rfl (by decide) ?_) | (refine MkG.box 3 rfl rfl rfl (by decide) ?_) | (refine MkG.row ?_)); conv => whnf) | (refine LitG.row ?_; conv => whnf) | exact trivial | (refine Br.mk (fun hb => ?_) (fun hb => ?_) <;> (first | (exfalso; revert hb; decide) | ((try simp only [BL] at hb) <;> (try simp only [DL] at hb) <;> conv => whnf))) | (refine And.intro ?_ ?_; (focus (first | exact id | exact rfl | exact trivial | (intro hg; first | exact hg | exact rfl | (simp; done) | (simp at hg ⊢; assumption)) | omega | decide | exact is2_c _ _ _ | exact is1_c _ _ | exact isS_c _ _ | exact isB_c _ _ | exact Nat.le_refl _ | assumption | exact mulLe (by decide) (by omega) | exact mulLe2 (by decide) (by omega) (by omega) | (intros; simp only [BL] at *; omega) | (intros; (try simp only [BL] at *); (try simp only [DL] at *); omega) | (intros; simp only [BL] at *; rw [wr_id (by omega) (by omega)]; omega) | (intro h1 h2; exact Bool.and_eq_true_iff.2 ⟨h1, h2⟩) | (intros; simp_all; done))); conv => whnf) | (refine Or.inr (And.intro rfl ?_); first | (refine congrArg intV ?_) | (refine congrArg boolV ?_) | (refine tupII ?_ ?_) | (refine tupIII ?_ ?_ ?_) | (refine tupU ?_ ?_ ?_ ?_ ?_) | exact rfl))))
      | (refine CallC.mk (Fn.mono rW ?_); rintro obs r ⟨rfl, rfl⟩; ((conv => whnf); repeat' (first | (refine NilG.mk fun bn hbn hbx => ?_; conv => whnf) | (refine Both.mk ?_ ?_ <;> conv => whnf) | ((first | (refine MkG.box 1 rfl rfl rfl (by decide) ?_) | (refine MkG.box 2 rfl rfl rfl (by decide) ?_) | (refine MkG.box 3 rfl rfl rfl (by decide) ?_) | (refine MkG.row ?_)); conv => whnf) | (refine LitG.row ?_; conv => whnf) | exact trivial | (refine Br.mk (fun hb => ?_) (fun hb => ?_) <;> (first | (exfalso; revert hb; decide) | ((try simp only [BL] at hb) <;> (try simp only [DL] at hb) <;> conv => whnf))) | (refine And.intro ?_ ?_; (focus (first | exact id | exact rfl | exact trivial | (intro hg; first | exact hg | exact rfl | (simp; done) | (simp at hg ⊢; assumption)) | omega | decide | exact is2_c _ _ _ | exact is1_c _ _ | exact isS_c _ _ | exact isB_c _ _ | exact Nat.le_refl _ | assumption | exact mulLe (by decide) (by omega) | exact mulLe2 (by decide) (by omega) (by omega) | (intros; simp only [BL] at *; omega) | (intros; (try simp only [BL] at *); (try simp only [DL] at *); omega) | (intros; simp only [BL] at *; rw [wr_id (by omega) (by omega)]; omega) | (intro h1 h2; exact Bool.and_eq_true_iff.2 ⟨h1, h2⟩) | (intros; simp_all; done))); conv => whnf) | (refine Or.inr (And.intro rfl ?_); first | (refine congrArg intV ?_) | (refine congrArg boolV ?_) | (refine tupII ?_ ?_) | (refine tupIII ?_ ?_ ?_) | (refine tupU ?_ ?_ ?_ ?_ ?_) | exact rfl))))
      | (refine CallC.mk (Fn.mono rD ?_); rintro obs r ⟨rfl, rfl⟩; ((conv => whnf); repeat' (first | (refine NilG.mk fun bn hbn hbx => ?_; conv => whnf) | (refine Both.mk ?_ ?_ <;> conv => whnf) | ((first | (refine MkG.box 1 rfl rfl rfl (by decide) ?_) | (refine MkG.box 2 rfl rfl rfl (by decide) ?_) | (refine MkG.box 3 rfl rfl rfl (by decide) ?_) | (refine MkG.row ?_)); conv => whnf) | (refine LitG.row ?_; conv => whnf) | exact trivial | (refine Br.mk (fun hb => ?_) (fun hb => ?_) <;> (first | (exfalso; revert hb; decide) | ((try simp only [BL] at hb) <;> (try simp only [DL] at hb) <;> conv => whnf))) | (refine And.intro ?_ ?_; (focus (first | exact id | exact rfl | exact trivial | (intro hg; first | exact hg | exact rfl | (simp; done) | (simp at hg ⊢; assumption)) | omega | decide | exact is2_c _ _ _ | exact is1_c _ _ | exact isS_c _ _ | exact isB_c _ _ | exact Nat.le_refl _ | assumption | exact mulLe (by decide) (by omega) | exact mulLe2 (by decide) (by omega) (by omega) | (intros; simp only [BL] at *; omega) | (intros; (try simp only [BL] at *); (try simp only [DL] at *); omega) | (intros; simp only [BL] at *; rw [wr_id (by omega) (by omega)]; omega) | (intro h1 h2; exact Bool.and_eq_true_iff.2 ⟨h1, h2⟩) | (intros; simp_all; done))); conv => whnf) | (refine Or.inr (And.intro rfl ?_); first | (refine congrArg intV ?_) | (refine congrArg boolV ?_) | (refine tupII ?_ ?_) | (refine tupIII ?_ ?_ ?_) | (refine tupU ?_ ?_ ?_ ?_ ?_) | exact rfl))))
      | (refine CallC.mk (Fn.mono rA ?_); rintro obs r ⟨rfl, rfl⟩; ((conv => whnf); repeat' (first | (refine NilG.mk fun bn hbn hbx => ?_; conv => whnf) | (refine Both.mk ?_ ?_ <;> conv => whnf) | ((first | (refine MkG.box 1 rfl rfl rfl (by decide) ?_) | (refine MkG.box 2 rfl rfl rfl (by decide) ?_) | (refine MkG.box 3 rfl rfl rfl (by decide) ?_) | (refine MkG.row ?_)); conv => whnf) | (refine LitG.row ?_; conv => whnf) | exact trivial | (refine Br.mk (fun hb => ?_) (fun hb => ?_) <;> (first | (exfalso; revert hb; decide) | ((try simp only [BL] at hb) <;> (try simp only [DL] at hb) <;> conv => whnf))) | (refine And.intro ?_ ?_; (focus (first | exact id | exact rfl | exact trivial | (intro hg; first | exact hg | exact rfl | (simp; done) | (simp at hg ⊢; assumption)) | omega | decide | exact is2_c _ _ _ | exact is1_c _ _ | exact isS_c _ _ | exact isB_c _ _ | exact Nat.le_refl _ | assumption | exact mulLe (by decide) (by omega) | exact mulLe2 (by decide) (by omega) (by omega) | (intros; simp only [BL] at *; omega) | (intros; (try simp only [BL] at *); (try simp only [DL] at *); omega) | (intros; simp only [BL] at *; rw [wr_id (by omega) (by omega)]; omega) | (intro h1 h2; exact Bool.and_eq_true_iff.2 ⟨h1, h2⟩) | (intros; simp_all; done))); conv => whnf) | (refine Or.inr (And.intro rfl ?_); first | (refine congrArg intV ?_) | (refine congrArg boolV ?_) | (refine tupII ?_ ?_) | (refine tupIII ?_ ?_ ?_) | (refine tupU ?_ ?_ ?_ ?_ ?_) | exact rfl))))
      | (refine CallC.tb 1000000 rfl (FnT.mono rX ?_); rintro obs r ⟨rfl, rfl⟩; ((conv => whnf); repeat' (first | (refine NilG.mk fun bn hbn hbx => ?_; conv => whnf) | (refine Both.mk ?_ ?_ <;> conv => whnf) | ((first | (refine MkG.box 1 rfl rfl rfl (by decide) ?_) | (refine MkG.box 2 rfl rfl rfl (by decide) ?_) | (refine MkG.box 3 rfl rfl rfl (by decide) ?_) | (refine MkG.row ?_)); conv => whnf) | (refine LitG.row ?_; conv => whnf) | exact trivial | (refine Br.mk (fun hb => ?_) (fun hb => ?_) <;> (first | (exfalso; revert hb; decide) | ((try simp only [BL] at hb) <;> (try simp only [DL] at hb) <;> conv => whnf))) | (refine And.intro ?_ ?_; (focus (first | exact id | exact rfl | exact trivial | (intro hg; first | exact hg | exact rfl | (simp; done) | (simp at hg ⊢; assumption)) | omega | decide | exact is2_c _ _ _ | exact is1_c _ _ | exact isS_c _ _ | exact isB_c _ _ | exact Nat.le_refl _ | assumption | exact mulLe (by decide) (by omega) | exact mulLe2 (by decide) (by omega) (by omega) | (intros; simp only [BL] at *; omega) | (intros; (try simp only [BL] at *); (try simp only [DL] at *); omega) | (intros; simp only [BL] at *; rw [wr_id (by omega) (by omega)]; omega) | (intro h1 h2; exact Bool.and_eq_true_iff.2 ⟨h1, h2⟩) | (intros; simp_all; done))); conv => whnf) | (refine Or.inr (And.intro rfl ?_); first | (refine congrArg intV ?_) | (refine congrArg boolV ?_) | (refine tupII ?_ ?_) | (refine tupIII ?_ ?_ ?_) | (refine tupU ?_ ?_ ?_ ?_ ?_) | exact rfl)))))
    subst hN1 hD1
    refine ⟨k + 1, [0, 1, 4], by omega, by omega, ?_⟩
    refine Sub.of ?_ ?_ ?_
    repeat' (first | (refine And.intro ?_ ?_) | exact trivial | exact fun _ _ _ => hsc _ _ | (exact congrArg intV (by first | with_reducible rfl | with_reducible assumption)) | exact (rfl : AV.idsLt _ _ = true) | exact (rfl : _ = AV.ren _ (.own _)) | exact (rfl : _ = AV.ren _ (.fn _ _)) | exact (rfl : _ = AV.ren _ (.gh _)) | (exact congrArg intV (by assumption)) | (refine congrArg intV ((wr_id (by omega) (by omega)).trans (by omega))) | exact rfl | (simp only [NLc]; first | exact rfl | done) | exact all0 | exact fun h => Bool.noConfusion h | exact fun _ _ _ _ => rfl | omega)
    intro aq haq bq hbq
    by_cases hltq : aq < k
    · exact if_pos hltq
    · obtain rfl : aq = k := by omega
      refine (if_neg hltq).trans ?_
      rw [Nat.sub_self]
      revert bq hbq
      refine all1 rfl
  · obtain rfl : k = n := by omega
    conv => whnf
    repeat' (first
      | (refine NilG.mk fun bn hbn hbx => ?_; conv => whnf)
      | (refine Both.mk ?_ ?_ <;> conv => whnf)
      | ((first | (refine MkG.box 1 rfl rfl rfl (by decide) ?_) | (refine MkG.box 2 rfl rfl rfl (by decide) ?_) | (refine MkG.box 3 rfl rfl rfl (by decide) ?_) | (refine MkG.row ?_)); conv => whnf)
      | (refine LitG.row ?_; conv => whnf)
      | exact trivial
      | (refine Br.mk (fun hb => ?_) (fun hb => ?_) <;> (first | (exfalso; revert hb; decide) | ((try simp only [BL] at hb) <;> (try simp only [DL] at hb) <;> (first | (exfalso; omega) | (conv => whnf)))))
      | (refine And.intro ?_ ?_; (focus (first | exact id | exact rfl | exact trivial | (intro hg; first | exact hg | exact rfl | (simp; done) | (simp at hg ⊢; assumption)) | omega | decide | exact is2_c _ _ _ | exact is1_c _ _ | exact isS_c _ _ | exact isB_c _ _ | exact Nat.le_refl _ | assumption | exact mulLe (by decide) (by omega) | exact mulLe2 (by decide) (by omega) (by omega) | (intros; simp only [BL] at *; omega) | (intros; (try simp only [BL] at *); (try simp only [DL] at *); omega) | (intros; simp only [BL] at *; rw [wr_id (by omega) (by omega)]; omega) | (intro h1 h2; exact Bool.and_eq_true_iff.2 ⟨h1, h2⟩) | (intros; simp_all; done))); conv => whnf)
      | (refine Or.inr (And.intro rfl ?_); first | (refine congrArg intV ?_) | (refine congrArg boolV ?_) | (refine tupII ?_ ?_) | (refine tupIII ?_ ?_ ?_) | (refine tupU ?_ ?_ ?_ ?_ ?_) | exact rfl))
theorem swStep : FnT Tryd.prog pwG pwC 28 [.agg (isA 10 0 105 100 (sI 0))] (fun obs r => obs = [] ∧ r = .tup [.agg (isA 10 0 105 100 (swT 10 0 5 0 0)), intV 0]) := by
  refine fnT_of_wpx (O := lex) tab_ok gamSw_ok mixed Tryd.func28 (by kernel_rfl) rfl rfl rfl (by simp [Tryd.ntmps28]) (by kernel_rfl) ?_
  have r1 := swRun 10 1 0 105 100 0 (by decide) (by decide) (by decide) (by decide) (by decide) (by decide) (by decide) (by decide) (by decide) (by decide)
  have e : ((105 : Int) - 100) = 5 := rfl
  rw [e] at r1
  generalize hc : cSw 10 0 5 0 = c at *
  have hc0 : c 0 0 = .v (.string (swT 10 0 5 0 0)) := by rw [← hc]; rfl
  generalize sI 0 = fr at *
  unfold isA at *
  conv => whnf
  repeat' (first
    | (refine NilG.mk fun bn hbn hbx => ?_; conv => whnf)
    | (refine Both.mk ?_ ?_ <;> conv => whnf)
    | ((first | (refine MkG.box 1 rfl rfl rfl (by decide) ?_) | (refine MkG.box 2 rfl rfl rfl (by decide) ?_) | (refine MkG.box 3 rfl rfl rfl (by decide) ?_) | (refine MkG.row ?_)); conv => whnf)
    | (refine LitG.row ?_; conv => whnf)
    | exact trivial
    | (refine Br.mk (fun hb => ?_) (fun hb => ?_) <;> (first | (exfalso; revert hb; decide) | ((try simp only [BL] at hb) <;> (try simp only [DL] at hb) <;> (first | (exfalso; omega) | (conv => whnf)))))
    | (refine And.intro ?_ ?_; (focus (first | exact id | exact rfl | exact trivial | (intro hg; first | exact hg | exact rfl | (simp; done) | (simp at hg ⊢; assumption)) | omega | decide | exact is2_c _ _ _ | exact is1_c _ _ | exact isS_c _ _ | exact isB_c _ _ | exact Nat.le_refl _ | assumption | exact mulLe (by decide) (by omega) | exact mulLe2 (by decide) (by omega) (by omega) | (intros; simp only [BL] at *; omega) | (intros; (try simp only [BL] at *); (try simp only [DL] at *); omega) | (intros; simp only [BL] at *; rw [wr_id (by omega) (by omega)]; omega) | (intro h1 h2; exact Bool.and_eq_true_iff.2 ⟨h1, h2⟩) | (intros; simp_all; done))); conv => whnf)
    | (refine Or.inr (And.intro rfl ?_); first | (refine congrArg intV ?_) | (refine congrArg boolV ?_) | (refine tupII ?_ ?_) | (refine tupIII ?_ ?_ ?_) | (refine tupU ?_ ?_ ?_ ?_ ?_) | exact rfl))
  refine CallG.tb 1000000 rfl (FnT.mono r1 ?_)
  rintro obs r ⟨rfl, rfl⟩
  subst hc
  conv => whnf
  repeat' (first
    | (refine NilG.mk fun bn hbn hbx => ?_; conv => whnf)
    | (refine Both.mk ?_ ?_ <;> conv => whnf)
    | ((first | (refine MkG.box 1 rfl rfl rfl (by decide) ?_) | (refine MkG.box 2 rfl rfl rfl (by decide) ?_) | (refine MkG.box 3 rfl rfl rfl (by decide) ?_) | (refine MkG.row ?_)); conv => whnf)
    | (refine LitG.row ?_; conv => whnf)
    | exact trivial
    | (refine Br.mk (fun hb => ?_) (fun hb => ?_) <;> (first | (exfalso; revert hb; decide) | ((try simp only [BL] at hb) <;> (try simp only [DL] at hb) <;> (first | (exfalso; omega) | (conv => whnf)))))
    | (refine And.intro ?_ ?_; (focus (first | exact id | exact rfl | exact trivial | (intro hg; first | exact hg | exact rfl | (simp; done) | (simp at hg ⊢; assumption)) | omega | decide | exact is2_c _ _ _ | exact is1_c _ _ | exact isS_c _ _ | exact isB_c _ _ | exact Nat.le_refl _ | assumption | exact mulLe (by decide) (by omega) | exact mulLe2 (by decide) (by omega) (by omega) | (intros; simp only [BL] at *; omega) | (intros; (try simp only [BL] at *); (try simp only [DL] at *); omega) | (intros; simp only [BL] at *; rw [wr_id (by omega) (by omega)]; omega) | (intro h1 h2; exact Bool.and_eq_true_iff.2 ⟨h1, h2⟩) | (intros; simp_all; done))); conv => whnf)
    | (refine Or.inr (And.intro rfl ?_); first | (refine congrArg intV ?_) | (refine congrArg boolV ?_) | (refine tupII ?_ ?_) | (refine tupIII ?_ ?_ ?_) | (refine tupU ?_ ?_ ?_ ?_ ?_) | exact rfl))
  all_goals skip
end Go.Proofs.YtjfnhehjhicnoaaDoor
