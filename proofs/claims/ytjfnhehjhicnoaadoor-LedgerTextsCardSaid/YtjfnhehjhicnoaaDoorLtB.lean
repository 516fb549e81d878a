/-
  Ledger texts: a line and its checksum.
-/
import Derived.Test.YtjfnhehjhicnoaaDoorLtA
namespace Go.Proofs.YtjfnhehjhicnoaaDoor
open Go.RowKit

def spB : ByteArray := ⟨#[32]⟩
def nlB : ByteArray := ⟨#[10]⟩
/-- an entry's text -/
def enT (x y : ByteArray) (c : Nat) : ByteArray := x ++ spB ++ y ++ spB ++ decB c
def sA (a : Int) (t : ByteArray) : Nat → Int
  | 0 => a
  | k + 1 => (sA a t k + strB t k) % 65521
def sB (a b : Int) (t : ByteArray) : Nat → Int
  | 0 => b
  | k + 1 => (sB a b t k + sA a t (k + 1)) % 65521
theorem sA_b {a : Int} {t : ByteArray} (h0 : 0 ≤ a) (h1 : a ≤ 65520) : ∀ k, 0 ≤ sA a t k ∧ sA a t k ≤ 65520
  | 0 => ⟨h0, h1⟩
  | k + 1 => by simp only [sA]; omega
theorem sB_b {a b : Int} {t : ByteArray} (h0 : 0 ≤ b) (h1 : b ≤ 65520) : ∀ k, 0 ≤ sB a b t k ∧ sB a b t k ≤ 65520
  | 0 => ⟨h0, h1⟩
  | k + 1 => by simp only [sB]; omega
/-- what the checksum is written as -/
def ckN (a b : Int) : Nat := (65521 * b + a).toNat
def lnT (x y : ByteArray) (c : Nat) (a b : Int) : ByteArray :=
  enT x y c ++ spB ++ decB (ckN (sA a (enT x y c) (enT x y c).size) (sB a b (enT x y c) (enT x y c).size)) ++ nlB
theorem enT_size {x y : ByteArray} {c : Nat} (hx : x.size ≤ 8) (hy : y.size ≤ 8) (hc : c ≤ 1000000000000) : (enT x y c).size ≤ 31 := by
  have := decB_size (u := c) (k := 12) (by omega)
  unfold enT
  rw [ByteArray.size_append, ByteArray.size_append, ByteArray.size_append, ByteArray.size_append]
  show x.size + 1 + y.size + 1 + _ ≤ 31
  omega
def ordLn : Ord := fun id => if id = 1 then some (.go 0 (.go 3 (.go 7 (.go 8 (.fork (.alt 1 (.go 2 (.fork (.alt 4 (.go 5 (.go 6 (.go 9 (.go 10 (.go 11 ((.done))))))) (.alt 9 (.go 4 (.go 5 (.go 6 (.go 10 (.go 11 ((.done))))))) (.none))))) (.alt 4 (.fork (.alt 1 (.go 2 (.go 5 (.go 6 (.go 9 (.go 10 (.go 11 ((.done)))))))) (.alt 9 (.go 1 (.go 2 (.go 5 (.go 6 (.go 10 (.go 11 ((.done)))))))) (.none)))) (.alt 9 (.go 1 (.go 2 (.go 4 (.go 5 (.go 6 (.go 10 (.go 11 ((.done))))))))) (.none))))))))) else if id = 8 then some (.go 0 (.go 1 (.go 2 (.go 3 (.go 4 (.go 5 (.go 6 (.go 7 (.fork (.alt 8 (.go 9 (.go 10 (.go 11 (.go 12 (.go 13 ((.done))))))) (.alt 11 (.go 8 (.go 9 (.go 10 (.go 12 (.go 13 ((.done))))))) (.none)))))))))))) else none
theorem sz32 : (⟨#[32]⟩ : ByteArray).size = 1 := rfl
theorem sz10 : (⟨#[10]⟩ : ByteArray).size = 1 := rfl
theorem itoD (u : Nat) (hu : u ≤ 9223372036854775807) : FnT Tryd.prog pwG pwC 65 [intV (u : Int)] (fun obs r => obs = [] ∧ r = strV (decB u)) := by
  have h := itoT (u : Int) (by omega) (by omega)
  rw [itoB_dec] at h
  exact h
set_option maxHeartbeats 8000000 in
theorem ltLine (x y : ByteArray) (c : Nat) (a b : Int) (hx : x.size ≤ 8) (hy : y.size ≤ 8) (hc : c ≤ 1000000000000) (ha : 0 ≤ a ∧ a ≤ 65520) (hb0 : 0 ≤ b ∧ b ≤ 65520) : FnT Tryd.prog pwG pwC 50 [.agg [intV a, intV b], .agg [strV x, strV y, intV (c : Int)]] (fun obs r => obs = [] ∧ r = .tup [strV (lnT x y c a b), .agg [intV (sA a (enT x y c) (enT x y c).size), intV (sB a b (enT x y c) (enT x y c).size)]]) := by
  refine fnT_of_wpx (O := ordLn) tab_ok gamN1_ok mixed Tryd.func50 (by kernel_rfl) rfl rfl rfl (by simp [Tryd.ntmps50]) (by kernel_rfl) ?_
  have hT := enT_size hx hy hc
  have hd := decB_size (u := c) (k := 12) (by omega)
  have hsA := sA_b (t := enT x y c) ha.1 ha.2
  have hsB := sB_b (a := a) (t := enT x y c) hb0.1 hb0.2
  conv => whnf
  repeat' (first
    | (refine NilG.mk fun bn hbn hbx => ?_; conv => whnf)
    | (refine Both.mk ?_ ?_ <;> conv => whnf)
    | ((first | (refine MkG.box 1 rfl rfl rfl (by decide) ?_) | (refine MkG.box 2 rfl rfl rfl (by decide) ?_) | (refine MkG.box 3 rfl rfl rfl (by decide) ?_) | (refine MkG.row ?_)); conv => whnf)
    | (refine LitG.row ?_; conv => whnf)
    | exact trivial
    | (refine Br.mk (fun hb => ?_) (fun hb => ?_) <;> (first | (exfalso; revert hb; decide) | ((try simp only [BL] at hb) <;> (try simp only [DL] at hb) <;> (first | (exfalso; omega) | (conv => whnf)))))
    | (refine And.intro ?_ ?_; (focus (first | exact id | exact rfl | exact trivial | (intro hg; first | exact hg | exact rfl | (simp; done) | (simp at hg ⊢; assumption)) | omega | decide | exact is2_c _ _ _ | exact is1_c _ _ | exact isS_c _ _ | exact isB_c _ _ | exact Nat.le_refl _ | assumption | exact mulLe (by decide) (by omega) | exact mulLe2 (by decide) (by omega) (by omega) | (intros; simp only [BL] at *; omega) | (intros; (try simp only [BL] at *); (try simp only [DL] at *); omega) | (intros; simp only [BL] at *; rw [wr_id (by omega) (by omega)]; omega) | (intro h1 h2; exact Bool.and_eq_true_iff.2 ⟨h1, h2⟩) | (simp only [ByteArray.size_append, sz32, sz10, maxLen]; omega) | (intros; simp_all; done))); conv => whnf)
    | (refine Or.inr (And.intro rfl ?_); first | (refine congrArg intV ?_) | (refine congrArg boolV ?_) | (refine tupII ?_ ?_) | (refine tupIII ?_ ?_ ?_) | (refine tupU ?_ ?_ ?_ ?_ ?_) | exact rfl))
  all_goals (repeat' (refine CallG.tb 1000000 rfl (FnT.mono (itoD c (by omega)) ?_); rintro obs r ⟨rfl, rfl⟩; ((conv => whnf); repeat' (first | (refine NilG.mk fun bn hbn hbx => ?_; conv => whnf) | (refine Both.mk ?_ ?_ <;> conv => whnf) | ((first | (refine MkG.box 1 rfl rfl rfl (by decide) ?_) | (refine MkG.box 2 rfl rfl rfl (by decide) ?_) | (refine MkG.box 3 rfl rfl rfl (by decide) ?_) | (refine MkG.row ?_)); conv => whnf) | (refine LitG.row ?_; conv => whnf) | exact trivial | (refine Br.mk (fun hb => ?_) (fun hb => ?_) <;> (first | (exfalso; revert hb; decide) | ((try simp only [BL] at hb) <;> (try simp only [DL] at hb) <;> conv => whnf))) | (refine And.intro ?_ ?_; (focus (first | exact id | exact rfl | exact trivial | (intro hg; first | exact hg | exact rfl | (simp; done) | (simp at hg ⊢; assumption)) | omega | decide | exact is2_c _ _ _ | exact is1_c _ _ | exact isS_c _ _ | exact isB_c _ _ | exact Nat.le_refl _ | assumption | exact mulLe (by decide) (by omega) | exact mulLe2 (by decide) (by omega) (by omega) | (intros; simp only [BL] at *; omega) | (intros; (try simp only [BL] at *); (try simp only [DL] at *); omega) | (intros; simp only [BL] at *; rw [wr_id (by omega) (by omega)]; omega) | (intro h1 h2; exact Bool.and_eq_true_iff.2 ⟨h1, h2⟩) | (simp only [ByteArray.size_append, sz32, sz10, maxLen]; omega) | (intros; simp_all; done))); conv => whnf) | (refine Or.inr (And.intro rfl ?_); first | (refine congrArg intV ?_) | (refine congrArg boolV ?_) | (refine tupII ?_ ?_) | (refine tupIII ?_ ?_ ?_) | (refine tupU ?_ ?_ ?_ ?_ ?_) | exact rfl)))))
  iterate 5
    focus
      refine sem_loop tab_ok gamN1_ok mixed (by kernel_rfl) (O := ordLn) (fun k : Nat => ⟨[(2, .lp 0 0), (5, .lp 1 0), (6, strV (enT x y c)), (21, .c (.sl 1 (enT x y c).size fun i _ => .v (.int .u8 (strB (enT x y c) i)))), (22, intV (enT x y c).size), (23, intV k), (1000000, .gt pwG pwC)], [.box [intV (sA a (enT x y c) k), intV (sB a b (enT x y c) k)], .box [intV 0, intV 0]]⟩) (fun k => k ≤ (enT x y c).size) (fun k => (enT x y c).size - k) ⟨0, [?_, ?_], Nat.zero_le _, ?_⟩ fun k hk => ?_
      rotate_left 2
      · refine Sub.of ?_ ?_ ?_
        repeat' (first | (refine And.intro ?_ ?_) | exact trivial | exact fun _ _ _ => hsc _ _ | (exact congrArg intV (by first | with_reducible rfl | with_reducible assumption)) | exact (rfl : AV.idsLt _ _ = true) | exact (rfl : _ = AV.ren _ (.own _)) | exact (rfl : _ = AV.ren _ (.fn _ _)) | exact (rfl : _ = AV.ren _ (.gh _)) | (exact congrArg intV (by assumption)) | (refine congrArg intV ((wr_id (by omega) (by omega)).trans (by omega))) | exact rfl | (simp only [NLc]; first | exact rfl | done) | exact all0 | exact fun h => Bool.noConfusion h | exact fun _ _ _ _ => rfl | omega)
      have hs := strB_le (enT x y c) k
      have hA := hsA k
      have hA1 := hsA (k + 1)
      have hB := hsB k
      have w1 : IntKind.i64.wrap (strB (enT x y c) k) = strB (enT x y c) k := wr_id (by omega) (by omega)
      have e1 : (IntKind.i64.wrap (sA a (enT x y c) k + IntKind.i64.wrap (strB (enT x y c) k))).tmod 65521 = sA a (enT x y c) (k + 1) := by
        rw [w1, wr_id (by omega) (by omega), Int.tmod_eq_emod_of_nonneg (by omega)]
        rfl
      have e2 : (IntKind.i64.wrap (sB a b (enT x y c) k + (IntKind.i64.wrap (sA a (enT x y c) k + IntKind.i64.wrap (strB (enT x y c) k))).tmod 65521)).tmod 65521 = sB a b (enT x y c) (k + 1) := by
        rw [e1, wr_id (by omega) (by omega), Int.tmod_eq_emod_of_nonneg (by omega)]
        rfl
      conv => whnf
      repeat' (first
        | (refine NilG.mk fun bn hbn hbx => ?_; conv => whnf)
        | (refine Both.mk ?_ ?_ <;> conv => whnf)
        | ((first | (refine MkG.box 1 rfl rfl rfl (by decide) ?_) | (refine MkG.box 2 rfl rfl rfl (by decide) ?_) | (refine MkG.box 3 rfl rfl rfl (by decide) ?_) | (refine MkG.row ?_)); conv => whnf)
        | (refine LitG.row ?_; conv => whnf)
        | exact trivial
        | (refine Br.mk (fun hb => ?_) (fun hb => ?_) <;> (first | (exfalso; revert hb; decide) | ((try simp only [BL] at hb) <;> (try simp only [DL] at hb) <;> (first | (exfalso; omega) | (conv => whnf)))))
        | (refine And.intro ?_ ?_; (focus (first | exact id | exact rfl | exact trivial | (intro hg; first | exact hg | exact rfl | (simp; done) | (simp at hg ⊢; assumption)) | omega | decide | exact is2_c _ _ _ | exact is1_c _ _ | exact isS_c _ _ | exact isB_c _ _ | exact Nat.le_refl _ | assumption | exact mulLe (by decide) (by omega) | exact mulLe2 (by decide) (by omega) (by omega) | (intros; simp only [BL] at *; omega) | (intros; (try simp only [BL] at *); (try simp only [DL] at *); omega) | (intros; simp only [BL] at *; rw [wr_id (by omega) (by omega)]; omega) | (intro h1 h2; exact Bool.and_eq_true_iff.2 ⟨h1, h2⟩) | (intros; simp_all; done))); conv => whnf)
        | (refine Or.inr (And.intro rfl ?_); first | (refine congrArg intV ?_) | (refine congrArg boolV ?_) | (refine tupII ?_ ?_) | (refine tupIII ?_ ?_ ?_) | (refine tupU ?_ ?_ ?_ ?_ ?_) | exact rfl))
      · refine ⟨k + 1, [?_, ?_], by omega, by omega, ?_⟩
        rotate_left 2
        refine Sub.of ?_ ?_ ?_
        repeat' (first | (refine And.intro ?_ ?_) | exact trivial | exact fun _ _ _ => hsc _ _ | (exact congrArg intV (by first | with_reducible rfl | with_reducible assumption)) | exact (rfl : AV.idsLt _ _ = true) | exact (rfl : _ = AV.ren _ (.own _)) | exact (rfl : _ = AV.ren _ (.fn _ _)) | exact (rfl : _ = AV.ren _ (.gh _)) | (exact congrArg intV (by assumption)) | (refine congrArg intV ((wr_id (by omega) (by omega)).trans (by omega))) | exact rfl | (simp only [NLc]; first | exact rfl | done) | exact all0 | exact fun h => Bool.noConfusion h | exact fun _ _ _ _ => rfl | omega)
        exact (congr (congrArg (fun a b => [intV a, intV b]) e1) e2 : _)
      obtain rfl : k = (enT x y c).size := by omega
      generalize hAe : sA a (enT x y c) (enT x y c).size = A at *
      generalize hBe : sB a b (enT x y c) (enT x y c).size = B at *
      have e3 : IntKind.i64.wrap (IntKind.i64.wrap (65521 * B) + A) = ((ckN A B : Nat) : Int) := by
        unfold ckN
        rw [wr_id (x := 65521 * B) (by omega) (by omega), wr_id (by omega) (by omega)]
        omega
      have hck : ckN A B ≤ 9000000000 := by unfold ckN; omega
      have hcd := decB_size (u := ckN A B) (k := 12) (by omega)
      conv => whnf
      repeat' (first
        | (refine NilG.mk fun bn hbn hbx => ?_; conv => whnf)
        | (refine Both.mk ?_ ?_ <;> conv => whnf)
        | ((first | (refine MkG.box 1 rfl rfl rfl (by decide) ?_) | (refine MkG.box 2 rfl rfl rfl (by decide) ?_) | (refine MkG.box 3 rfl rfl rfl (by decide) ?_) | (refine MkG.row ?_)); conv => whnf)
        | (refine LitG.row ?_; conv => whnf)
        | exact trivial
        | (refine Br.mk (fun hb => ?_) (fun hb => ?_) <;> (first | (exfalso; revert hb; decide) | ((try simp only [BL] at hb) <;> (try simp only [DL] at hb) <;> (first | (exfalso; omega) | (conv => whnf)))))
        | (refine And.intro ?_ ?_; (focus (first | exact id | exact rfl | exact trivial | (intro hg; first | exact hg | exact rfl | (simp; done) | (simp at hg ⊢; assumption)) | omega | decide | exact is2_c _ _ _ | exact is1_c _ _ | exact isS_c _ _ | exact isB_c _ _ | exact Nat.le_refl _ | assumption | exact mulLe (by decide) (by omega) | exact mulLe2 (by decide) (by omega) (by omega) | (intros; simp only [BL] at *; omega) | (intros; (try simp only [BL] at *); (try simp only [DL] at *); omega) | (intros; simp only [BL] at *; rw [wr_id (by omega) (by omega)]; omega) | (intro h1 h2; exact Bool.and_eq_true_iff.2 ⟨h1, h2⟩) | (simp only [ByteArray.size_append, sz32, sz10, maxLen]; omega) | (intros; simp_all; done))); conv => whnf)
        | (refine Or.inr (And.intro rfl ?_); first | (refine congrArg intV ?_) | (refine congrArg boolV ?_) | (refine tupII ?_ ?_) | (refine tupIII ?_ ?_ ?_) | (refine tupU ?_ ?_ ?_ ?_ ?_) | exact rfl))
      all_goals (rw [e3]; refine CallG.tb 1000000 rfl (FnT.mono (itoD (ckN A B) (by omega)) ?_); rintro obs r ⟨rfl, rfl⟩; ((conv => whnf); repeat' (first | (refine NilG.mk fun bn hbn hbx => ?_; conv => whnf) | (refine Both.mk ?_ ?_ <;> conv => whnf) | ((first | (refine MkG.box 1 rfl rfl rfl (by decide) ?_) | (refine MkG.box 2 rfl rfl rfl (by decide) ?_) | (refine MkG.box 3 rfl rfl rfl (by decide) ?_) | (refine MkG.row ?_)); conv => whnf) | (refine LitG.row ?_; conv => whnf) | exact trivial | (refine Br.mk (fun hb => ?_) (fun hb => ?_) <;> (first | (exfalso; revert hb; decide) | ((try simp only [BL] at hb) <;> (try simp only [DL] at hb) <;> conv => whnf))) | (refine And.intro ?_ ?_; (focus (first | exact id | exact rfl | exact trivial | (intro hg; first | exact hg | exact rfl | (simp; done) | (simp at hg ⊢; assumption)) | omega | decide | exact is2_c _ _ _ | exact is1_c _ _ | exact isS_c _ _ | exact isB_c _ _ | exact Nat.le_refl _ | assumption | exact mulLe (by decide) (by omega) | exact mulLe2 (by decide) (by omega) (by omega) | (intros; simp only [BL] at *; omega) | (intros; (try simp only [BL] at *); (try simp only [DL] at *); omega) | (intros; simp only [BL] at *; rw [wr_id (by omega) (by omega)]; omega) | (intro h1 h2; exact Bool.and_eq_true_iff.2 ⟨h1, h2⟩) | (simp only [ByteArray.size_append, sz32, sz10, maxLen]; omega) | (intros; simp_all; done))); conv => whnf) | (refine Or.inr (And.intro rfl ?_); first | (refine congrArg intV ?_) | (refine congrArg boolV ?_) | (refine tupII ?_ ?_) | (refine tupIII ?_ ?_ ?_) | (refine tupU ?_ ?_ ?_ ?_ ?_) | exact rfl))))
      all_goals (subst hAe hBe)
      all_goals exact .inr ⟨rfl, rfl⟩
end Go.Proofs.YtjfnhehjhicnoaaDoor
