/-
  Ledger texts: all lines, by the reference.
-/
import Derived.Test.YtjfnhehjhicnoaaDoorLtB
namespace Go.Proofs.YtjfnhehjhicnoaaDoor
open Go.RowKit

structure Ent where
  n : Nat
  fr : Nat → ByteArray
  to : Nat → ByteArray
  ct : Nat → Int
def cE (E : Ent) : Nat → Nat → L := fun k j => [sL (E.fr k), sL (E.to k), iL (E.ct k)].getD j .un
abbrev eV (E : Ent) : AV := .c (.sl 3 E.n (cE E))
def enOk (E : Ent) : Prop := ∀ k, k < E.n → (E.fr k).size ≤ 8 ∧ (E.to k).size ≤ 8 ∧ 1 ≤ E.ct k ∧ E.ct k ≤ 1000000000000
def eT (E : Ent) (i : Nat) : ByteArray := enT (E.fr i) (E.to i) (E.ct i).toNat
def lx (E : Ent) : Nat → Int × Int
  | 0 => (1, 0)
  | i + 1 => (sA (lx E i).1 (eT E i) (eT E i).size, sB (lx E i).1 (lx E i).2 (eT E i) (eT E i).size)
theorem lx_b (E : Ent) : ∀ i, (0 ≤ (lx E i).1 ∧ (lx E i).1 ≤ 65520) ∧ 0 ≤ (lx E i).2 ∧ (lx E i).2 ≤ 65520
  | 0 => by simp only [lx]; omega
  | i + 1 => by
    have h := lx_b E i
    exact ⟨sA_b h.1.1 h.1.2 _, sB_b h.2.1 h.2.2 _⟩
def lxT (E : Ent) : Nat → ByteArray
  | 0 => ⟨#[]⟩
  | i + 1 => lxT E i ++ lnT (E.fr i) (E.to i) (E.ct i).toNat (lx E i).1 (lx E i).2
theorem eT_size {E : Ent} (h : enOk E) {i : Nat} (hi : i < E.n) : (eT E i).size ≤ 31 := by
  obtain ⟨h1, h2, h3, h4⟩ := h i hi
  exact enT_size h1 h2 (by omega)
theorem ck_le {a b : Int} (ha : 0 ≤ a ∧ a ≤ 65520) (hb : 0 ≤ b ∧ b ≤ 65520) : (ckN a b : Int) = 65521 * b + a ∧ ckN a b ≤ 9000000000 := by unfold ckN; omega
theorem lxT_size {E : Ent} (h : enOk E) : ∀ {i : Nat}, i ≤ E.n → (lxT E i).size ≤ 46 * i
  | 0, _ => Nat.le_refl _
  | i + 1, hi => by
    have ih := lxT_size h (i := i) (by omega)
    have h1 := eT_size h (i := i) (by omega)
    have h2 := lx_b E (i + 1)
    have h3 := decB_size (u := ckN (lx E (i + 1)).1 (lx E (i + 1)).2) (k := 12) (by have := (ck_le h2.1 h2.2).2; omega)
    simp only [lxT, lnT, ByteArray.size_append]
    have e1 : spB.size = 1 := rfl
    have e2 : nlB.size = 1 := rfl
    have h1' : (enT (E.fr i) (E.to i) (E.ct i).toNat).size ≤ 31 := h1
    have h3' : (decB (ckN (sA (lx E i).1 (enT (E.fr i) (E.to i) (E.ct i).toNat) (enT (E.fr i) (E.to i) (E.ct i).toNat).size) (sB (lx E i).1 (lx E i).2 (enT (E.fr i) (E.to i) (E.ct i).toNat) (enT (E.fr i) (E.to i) (E.ct i).toNat).size))).size ≤ 12 + 1 := h3
    omega
/-- the sums as the reference has them -/
def xA (a : Int) (t : ByteArray) : Nat → Int
  | 0 => a
  | k + 1 => xA a t k + strB t k
def xB (a b : Int) (t : ByteArray) : Nat → Int
  | 0 => b
  | k + 1 => xB a b t k + xA a t (k + 1)
theorem xA_b {a : Int} {t : ByteArray} (ha : 0 ≤ a ∧ a ≤ 65520) : ∀ {k : Nat}, 0 ≤ xA a t k ∧ xA a t k ≤ 65520 + 255 * k
  | 0 => by simp only [xA]; omega
  | k + 1 => by
    have h := xA_b (t := t) ha (k := k)
    have hs := strB_le t k
    simp only [xA]
    omega
theorem xB_b {a b : Int} {t : ByteArray} (ha : 0 ≤ a ∧ a ≤ 65520) (hb : 0 ≤ b ∧ b ≤ 65520) : ∀ {k : Nat}, k ≤ 31 → 0 ≤ xB a b t k ∧ xB a b t k ≤ 65520 + 80000 * k
  | 0, _ => by simp only [xB]; omega
  | k + 1, hk => by
    have h := xB_b (t := t) ha hb (k := k) (by omega)
    have h2 := xA_b (t := t) ha (k := k + 1)
    simp only [xB]
    omega
theorem xA_m {a : Int} {t : ByteArray} (ha : 0 ≤ a ∧ a ≤ 65520) : ∀ {k : Nat}, xA a t k % 65521 = sA a t k
  | 0 => by simp only [xA, sA]; omega
  | k + 1 => by
    have h := xA_m (t := t) ha (k := k)
    simp only [xA, sA]
    omega
theorem xB_m {a b : Int} {t : ByteArray} (ha : 0 ≤ a ∧ a ≤ 65520) (hb : 0 ≤ b ∧ b ≤ 65520) : ∀ {k : Nat}, xB a b t k % 65521 = sB a b t k
  | 0 => by simp only [xB, sB]; omega
  | k + 1 => by
    have h := xB_m (t := t) ha hb (k := k)
    have h2 := xA_m (t := t) ha (k := k + 1)
    simp only [xB, sB]
    omega
theorem ltDecZ (z : Int) (h0 : 0 ≤ z) (h1 : z ≤ 9223372036854775807) : Fn1 Tryd.prog 34 [intV z] (strV (decB z.toNat)) := by
  have h := ltDec z.toNat (by omega)
  rwa [show ((z.toNat : Nat) : Int) = z by omega] at h
def ordLi : Ord := fun id => if id = 5 then some (.go 0 (.go 3 (.go 7 (.go 8 (.fork (.alt 1 (.go 2 (.fork (.alt 4 (.go 5 (.go 6 (.go 9 (.go 10 (.go 11 ((.done))))))) (.alt 9 (.go 4 (.go 5 (.go 6 (.go 10 (.go 11 ((.done))))))) (.none))))) (.alt 4 (.fork (.alt 1 (.go 2 (.go 5 (.go 6 (.go 9 (.go 10 (.go 11 ((.done)))))))) (.alt 9 (.go 1 (.go 2 (.go 5 (.go 6 (.go 10 (.go 11 ((.done)))))))) (.none)))) (.alt 9 (.go 1 (.go 2 (.go 4 (.go 5 (.go 6 (.go 10 (.go 11 ((.done))))))))) (.none))))))))) else none
set_option maxHeartbeats 8000000 in
theorem ltLines (E : Ent) (hn : E.n ≤ 256) (hE : enOk E) : Fn1 Tryd.prog 25 [eV E] (strV (lxT E E.n)) := by
  refine fn_of_wpx (O := ordLi) tab_ok gamN1_ok mixed Tryd.func25 (by kernel_rfl) rfl rfl rfl (by simp [Tryd.ntmps25]) (by kernel_rfl) ?_
  conv => whnf
  repeat' (first
    | (refine NilG.mk fun bn hbn hbx => ?_; conv => whnf)
    | (refine Both.mk ?_ ?_ <;> conv => whnf)
    | ((first | (refine MkG.box 1 rfl rfl rfl (by decide) ?_) | (refine MkG.box 2 rfl rfl rfl (by decide) ?_) | (refine MkG.box 3 rfl rfl rfl (by decide) ?_) | (refine MkG.row ?_)); conv => whnf)
    | (refine LitG.row ?_; conv => whnf)
    | exact trivial
    | (refine Br.mk (fun hb => ?_) (fun hb => ?_) <;> (first | (exfalso; revert hb; decide) | ((try simp only [BL] at hb) <;> (try simp only [DL] at hb) <;> (first | (exfalso; omega) | (conv => whnf)))))
    | (refine And.intro ?_ ?_; (focus (first | exact id | exact rfl | exact trivial | (intro hg; first | exact hg | exact rfl | (simp; done) | (simp at hg ⊢; assumption)) | omega | decide | exact is2_c _ _ _ | exact is1_c _ _ | exact isS_c _ _ | exact isB_c _ _ | exact Nat.le_refl _ | assumption | exact mulLe (by decide) (by omega) | exact mulLe2 (by decide) (by omega) (by omega) | (intros; simp only [BL] at *; omega) | (intros; (try simp only [BL] at *); (try simp only [DL] at *); omega) | (intros; simp only [BL] at *; rw [wr_id (by omega) (by omega)]; omega) | (intro h1 h2; exact Bool.and_eq_true_iff.2 ⟨h1, h2⟩) | (intros; simp_all; done))); conv => whnf)
    | (refine Or.inr (And.intro rfl ?_); first | (refine congrArg intV ?_) | (refine congrArg boolV ?_) | (refine tupII ?_ ?_) | (refine tupIII ?_ ?_ ?_) | (refine tupU ?_ ?_ ?_ ?_ ?_) | exact rfl))
  refine sem_loop tab_ok gamN1_ok mixed (by kernel_rfl) (O := ordLi) (fun i : Nat => ⟨[(3, strV (lxT E i)), (4, intV (lx E i).1), (5, intV (lx E i).2), (10, eV E), (11, intV E.n), (12, intV i)], []⟩) (fun i => i ≤ E.n) (fun i => E.n - i) ⟨0, [], Nat.zero_le _, ?_⟩ fun i hi => ?_
  · refine Sub.of ?_ ?_ ?_
    repeat' (first | (refine And.intro ?_ ?_) | exact trivial | exact fun _ _ _ => hsc _ _ | (exact congrArg intV (by first | with_reducible rfl | with_reducible assumption)) | exact (rfl : AV.idsLt _ _ = true) | exact (rfl : _ = AV.ren _ (.own _)) | exact (rfl : _ = AV.ren _ (.fn _ _)) | exact (rfl : _ = AV.ren _ (.gh _)) | (exact congrArg intV (by assumption)) | (refine congrArg intV ((wr_id (by omega) (by omega)).trans (by omega))) | exact rfl | (simp only [NLc]; first | exact rfl | done) | exact all0 | exact fun h => Bool.noConfusion h | exact fun _ _ _ _ => rfl | omega)
  have hlb := lx_b E i
  have hls := lxT_size hE (i := i) hi
  rcases Nat.lt_or_ge i E.n with hlt | hge
  · obtain ⟨h1, h2, h3, h4⟩ := hE i hlt
    have hes := eT_size hE hlt
    have hd := decB_size (u := (E.ct i).toNat) (k := 12) (by omega)
    have h1' : (E.fr (i : Int).toNat).size ≤ 8 := h1
    have h2' : (E.to (i : Int).toNat).size ≤ 8 := h2
    have hm : ∀ k : Nat, k ≤ 31 → (0 ≤ xA (lx E i).1 (eT E i) k ∧ xA (lx E i).1 (eT E i) k ≤ 80000) ∧ 0 ≤ xB (lx E i).1 (lx E i).2 (eT E i) k ∧ xB (lx E i).1 (lx E i).2 (eT E i) k ≤ 3000000 := fun k hk => by
      have g1 := xA_b (t := eT E i) hlb.1 (k := k)
      have g2 := xB_b (t := eT E i) hlb.1 hlb.2 hk
      omega
    conv => whnf
    repeat' (first
      | (refine NilG.mk fun bn hbn hbx => ?_; conv => whnf)
      | (refine Both.mk ?_ ?_ <;> conv => whnf)
      | ((first | (refine MkG.box 1 rfl rfl rfl (by decide) ?_) | (refine MkG.box 2 rfl rfl rfl (by decide) ?_) | (refine MkG.box 3 rfl rfl rfl (by decide) ?_) | (refine MkG.row ?_)); conv => whnf)
      | (refine LitG.row ?_; conv => whnf)
      | exact trivial
      | (refine Br.mk (fun hb => ?_) (fun hb => ?_) <;> (first | (exfalso; revert hb; decide) | ((try simp only [BL] at hb) <;> (try simp only [DL] at hb) <;> (first | (exfalso; omega) | (conv => whnf)))))
      | (refine And.intro ?_ ?_; (focus (first | exact id | exact rfl | exact trivial | (intro hg; first | exact hg | exact rfl | (simp; done) | (simp at hg ⊢; assumption)) | omega | decide | exact is2_c _ _ _ | exact is1_c _ _ | exact isS_c _ _ | exact isB_c _ _ | exact Nat.le_refl _ | assumption | exact mulLe (by decide) (by omega) | exact mulLe2 (by decide) (by omega) (by omega) | (intros; simp only [BL] at *; omega) | (intros; (try simp only [BL] at *); (try simp only [DL] at *); omega) | (intros; simp only [BL] at *; rw [wr_id (by omega) (by omega)]; omega) | (intro h1 h2; exact Bool.and_eq_true_iff.2 ⟨h1, h2⟩) | (simp only [ByteArray.size_append, sz32, sz10, maxLen]; omega) | (intros; simp_all; done))); conv => whnf)
      | (refine Or.inr (And.intro rfl ?_); first | (refine congrArg intV ?_) | (refine congrArg boolV ?_) | (refine tupII ?_ ?_) | (refine tupIII ?_ ?_ ?_) | (refine tupU ?_ ?_ ?_ ?_ ?_) | exact rfl))
    all_goals (repeat' (refine CallG.mk (Fn.mono (ltDecZ (E.ct i) (by omega) (by omega)) ?_); rintro obs r ⟨rfl, rfl⟩; ((conv => whnf); repeat' (first | (refine NilG.mk fun bn hbn hbx => ?_; conv => whnf) | (refine Both.mk ?_ ?_ <;> conv => whnf) | ((first | (refine MkG.box 1 rfl rfl rfl (by decide) ?_) | (refine MkG.box 2 rfl rfl rfl (by decide) ?_) | (refine MkG.box 3 rfl rfl rfl (by decide) ?_) | (refine MkG.row ?_)); conv => whnf) | (refine LitG.row ?_; conv => whnf) | exact trivial | (refine Br.mk (fun hb => ?_) (fun hb => ?_) <;> (first | (exfalso; revert hb; decide) | ((try simp only [BL] at hb) <;> (try simp only [DL] at hb) <;> conv => whnf))) | (refine And.intro ?_ ?_; (focus (first | exact id | exact rfl | exact trivial | (intro hg; first | exact hg | exact rfl | (simp; done) | (simp at hg ⊢; assumption)) | omega | decide | exact is2_c _ _ _ | exact is1_c _ _ | exact isS_c _ _ | exact isB_c _ _ | exact Nat.le_refl _ | assumption | exact mulLe (by decide) (by omega) | exact mulLe2 (by decide) (by omega) (by omega) | (intros; simp only [BL] at *; omega) | (intros; (try simp only [BL] at *); (try simp only [DL] at *); omega) | (intros; simp only [BL] at *; rw [wr_id (by omega) (by omega)]; omega) | (intro h1 h2; exact Bool.and_eq_true_iff.2 ⟨h1, h2⟩) | (simp only [ByteArray.size_append, sz32, sz10, maxLen]; omega) | (intros; simp_all; done))); conv => whnf) | (refine Or.inr (And.intro rfl ?_); first | (refine congrArg intV ?_) | (refine congrArg boolV ?_) | (refine tupII ?_ ?_) | (refine tupIII ?_ ?_ ?_) | (refine tupU ?_ ?_ ?_ ?_ ?_) | exact rfl)))))
    iterate 5
      focus
        refine sem_loop tab_ok gamN1_ok mixed (by kernel_rfl) (O := ordLi) (fun k : Nat => ⟨[(3, strV (lxT E i)), (4, intV (xA (lx E i).1 (eT E i) k)), (5, intV (xB (lx E i).1 (lx E i).2 (eT E i) k)), (8, strV (eT E i)), (10, eV E), (11, intV E.n), (12, intV i), (28, intV (eT E i).size), (29, intV k)], []⟩) (fun k => k ≤ (eT E i).size) (fun k => (eT E i).size - k) ⟨0, [], Nat.zero_le _, ?_⟩ fun k hk => ?_
        · refine Sub.of ?_ ?_ ?_
          repeat' (first | (refine And.intro ?_ ?_) | exact trivial | exact fun _ _ _ => hsc _ _ | (exact congrArg intV (by first | with_reducible rfl | with_reducible assumption)) | exact (rfl : AV.idsLt _ _ = true) | exact (rfl : _ = AV.ren _ (.own _)) | exact (rfl : _ = AV.ren _ (.fn _ _)) | exact (rfl : _ = AV.ren _ (.gh _)) | (exact congrArg intV (by assumption)) | (refine congrArg intV ((wr_id (by omega) (by omega)).trans (by omega))) | exact rfl | (simp only [NLc]; first | exact rfl | done) | exact all0 | exact fun h => Bool.noConfusion h | exact fun _ _ _ _ => rfl | omega)
        have hs := strB_le (eT E i) k
        have hm0 := hm k (by omega)
        rcases Nat.lt_or_ge k (eT E i).size with hkl | hkg
        · have hm1 := hm (k + 1) (by omega)
          have w1 : IntKind.i64.wrap (strB (eT E i) k) = strB (eT E i) k := wr_id (by omega) (by omega)
          have e1 : IntKind.i64.wrap (xA (lx E i).1 (eT E i) k + IntKind.i64.wrap (strB (eT E i) k)) = xA (lx E i).1 (eT E i) (k + 1) := by
            have e : xA (lx E i).1 (eT E i) (k + 1) = xA (lx E i).1 (eT E i) k + strB (eT E i) k := rfl
            rw [w1, wr_id (by omega) (by omega), e]
          have e2 : IntKind.i64.wrap (xB (lx E i).1 (lx E i).2 (eT E i) k + IntKind.i64.wrap (xA (lx E i).1 (eT E i) k + IntKind.i64.wrap (strB (eT E i) k))) = xB (lx E i).1 (lx E i).2 (eT E i) (k + 1) := by
            have e : xB (lx E i).1 (lx E i).2 (eT E i) (k + 1) = xB (lx E i).1 (lx E i).2 (eT E i) k + xA (lx E i).1 (eT E i) (k + 1) := rfl
            rw [e1, wr_id (by omega) (by omega), e]
          conv => whnf
          repeat' (first
            | (refine NilG.mk fun bn hbn hbx => ?_; conv => whnf)
            | (refine Both.mk ?_ ?_ <;> conv => whnf)
            | ((first | (refine MkG.box 1 rfl rfl rfl (by decide) ?_) | (refine MkG.box 2 rfl rfl rfl (by decide) ?_) | (refine MkG.box 3 rfl rfl rfl (by decide) ?_) | (refine MkG.row ?_)); conv => whnf)
            | (refine LitG.row ?_; conv => whnf)
            | exact trivial
            | (refine Br.mk (fun hb => ?_) (fun hb => ?_) <;> (first | (exfalso; revert hb; decide) | ((try simp only [BL] at hb) <;> (try simp only [DL] at hb) <;> (first | (exfalso; omega) | (conv => whnf)))))
            | (refine And.intro ?_ ?_; (focus (first | exact id | exact rfl | exact trivial | (intro hg; first | exact hg | exact rfl | (simp; done) | (simp at hg ⊢; assumption)) | omega | decide | exact is2_c _ _ _ | exact is1_c _ _ | exact isS_c _ _ | exact isB_c _ _ | exact Nat.le_refl _ | assumption | exact mulLe (by decide) (by omega) | exact mulLe2 (by decide) (by omega) (by omega) | (intros; simp only [BL] at *; omega) | (intros; (try simp only [BL] at *); (try simp only [DL] at *); omega) | (intros; simp only [BL] at *; rw [wr_id (by omega) (by omega)]; omega) | (intro h1 h2; exact Bool.and_eq_true_iff.2 ⟨h1, h2⟩) | (intros; simp_all; done))); conv => whnf)
            | (refine Or.inr (And.intro rfl ?_); first | (refine congrArg intV ?_) | (refine congrArg boolV ?_) | (refine tupII ?_ ?_) | (refine tupIII ?_ ?_ ?_) | (refine tupU ?_ ?_ ?_ ?_ ?_) | exact rfl))
          refine ⟨k + 1, [], by omega, by omega, ?_⟩
          refine Sub.of ?_ ?_ ?_
          repeat' (first | (refine And.intro ?_ ?_) | exact trivial | exact fun _ _ _ => hsc _ _ | (exact congrArg intV (by first | with_reducible rfl | with_reducible assumption)) | exact (rfl : AV.idsLt _ _ = true) | exact (rfl : _ = AV.ren _ (.own _)) | exact (rfl : _ = AV.ren _ (.fn _ _)) | exact (rfl : _ = AV.ren _ (.gh _)) | (exact congrArg intV (by assumption)) | (refine congrArg intV ((wr_id (by omega) (by omega)).trans (by omega))) | exact rfl | (simp only [NLc]; first | exact rfl | done) | exact all0 | exact fun h => Bool.noConfusion h | exact fun _ _ _ _ => rfl | omega)
        · obtain rfl : k = (eT E i).size := by omega
          have q1 : (xA (lx E i).1 (eT E i) (eT E i).size).tmod 65521 = (lx E (i + 1)).1 := by
            rw [Int.tmod_eq_emod_of_nonneg (by omega)]
            exact xA_m hlb.1
          have q2 : (xB (lx E i).1 (lx E i).2 (eT E i) (eT E i).size).tmod 65521 = (lx E (i + 1)).2 := by
            rw [Int.tmod_eq_emod_of_nonneg (by omega)]
            exact xB_m hlb.1 hlb.2
          have hl1 := lx_b E (i + 1)
          have hcq := ck_le hl1.1 hl1.2
          have hcd := decB_size (u := ckN (lx E (i + 1)).1 (lx E (i + 1)).2) (k := 12) (by omega)
          conv => whnf
          repeat' (first
            | (refine NilG.mk fun bn hbn hbx => ?_; conv => whnf)
            | (refine Both.mk ?_ ?_ <;> conv => whnf)
            | ((first | (refine MkG.box 1 rfl rfl rfl (by decide) ?_) | (refine MkG.box 2 rfl rfl rfl (by decide) ?_) | (refine MkG.box 3 rfl rfl rfl (by decide) ?_) | (refine MkG.row ?_)); conv => whnf)
            | (refine LitG.row ?_; conv => whnf)
            | exact trivial
            | (refine Br.mk (fun hb => ?_) (fun hb => ?_) <;> (first | (exfalso; revert hb; decide) | ((try simp only [BL] at hb) <;> (try simp only [DL] at hb) <;> (first | (exfalso; omega) | (conv => whnf)))))
            | (refine And.intro ?_ ?_; (focus (first | exact id | exact rfl | exact trivial | (intro hg; first | exact hg | exact rfl | (simp; done) | (simp at hg ⊢; assumption)) | omega | decide | exact is2_c _ _ _ | exact is1_c _ _ | exact isS_c _ _ | exact isB_c _ _ | exact Nat.le_refl _ | assumption | exact mulLe (by decide) (by omega) | exact mulLe2 (by decide) (by omega) (by omega) | (intros; simp only [BL] at *; omega) | (intros; (try simp only [BL] at *); (try simp only [DL] at *); omega) | (intros; simp only [BL] at *; rw [wr_id (by omega) (by omega)]; omega) | (intro h1 h2; exact Bool.and_eq_true_iff.2 ⟨h1, h2⟩) | (simp only [ByteArray.size_append, sz32, sz10, maxLen]; omega) | (intros; simp_all; done))); conv => whnf)
            | (refine Or.inr (And.intro rfl ?_); first | (refine congrArg intV ?_) | (refine congrArg boolV ?_) | (refine tupII ?_ ?_) | (refine tupIII ?_ ?_ ?_) | (refine tupU ?_ ?_ ?_ ?_ ?_) | exact rfl))
          have e3 : IntKind.i64.wrap (IntKind.i64.wrap (65521 * (lx E (i + 1)).2) + (lx E (i + 1)).1) = ((ckN (lx E (i + 1)).1 (lx E (i + 1)).2 : Nat) : Int) := by
            rw [wr_id (x := 65521 * (lx E (i + 1)).2) (by omega) (by omega), wr_id (by omega) (by omega)]
            omega
          rw [q2, q1, e3]
          refine CallG.mk (Fn.mono (ltDec (ckN (lx E (i + 1)).1 (lx E (i + 1)).2) (by omega)) ?_)
          rintro obs r ⟨rfl, rfl⟩
          conv => whnf
          repeat' (first
            | (refine NilG.mk fun bn hbn hbx => ?_; conv => whnf)
            | (refine Both.mk ?_ ?_ <;> conv => whnf)
            | ((first | (refine MkG.box 1 rfl rfl rfl (by decide) ?_) | (refine MkG.box 2 rfl rfl rfl (by decide) ?_) | (refine MkG.box 3 rfl rfl rfl (by decide) ?_) | (refine MkG.row ?_)); conv => whnf)
            | (refine LitG.row ?_; conv => whnf)
            | exact trivial
            | (refine Br.mk (fun hb => ?_) (fun hb => ?_) <;> (first | (exfalso; revert hb; decide) | ((try simp only [BL] at hb) <;> (try simp only [DL] at hb) <;> (first | (exfalso; omega) | (conv => whnf)))))
            | (refine And.intro ?_ ?_; (focus (first | exact id | exact rfl | exact trivial | (intro hg; first | exact hg | exact rfl | (simp; done) | (simp at hg ⊢; assumption)) | omega | decide | exact is2_c _ _ _ | exact is1_c _ _ | exact isS_c _ _ | exact isB_c _ _ | exact Nat.le_refl _ | assumption | exact mulLe (by decide) (by omega) | exact mulLe2 (by decide) (by omega) (by omega) | (intros; simp only [BL] at *; omega) | (intros; (try simp only [BL] at *); (try simp only [DL] at *); omega) | (intros; simp only [BL] at *; rw [wr_id (by omega) (by omega)]; omega) | (intro h1 h2; exact Bool.and_eq_true_iff.2 ⟨h1, h2⟩) | (simp only [ByteArray.size_append, sz32, sz10, maxLen]; omega) | (intros; simp_all; done))); conv => whnf)
            | (refine Or.inr (And.intro rfl ?_); first | (refine congrArg intV ?_) | (refine congrArg boolV ?_) | (refine tupII ?_ ?_) | (refine tupIII ?_ ?_ ?_) | (refine tupU ?_ ?_ ?_ ?_ ?_) | exact rfl))
          refine ⟨i + 1, [], by omega, by omega, ?_⟩
          refine Sub.of ?_ ?_ ?_
          repeat' (first | (refine And.intro ?_ ?_) | exact trivial | exact fun _ _ _ => hsc _ _ | (exact congrArg intV (by first | with_reducible rfl | with_reducible assumption)) | exact (rfl : AV.idsLt _ _ = true) | exact (rfl : _ = AV.ren _ (.own _)) | exact (rfl : _ = AV.ren _ (.fn _ _)) | exact (rfl : _ = AV.ren _ (.gh _)) | (exact congrArg intV (by assumption)) | (refine congrArg intV ((wr_id (by omega) (by omega)).trans (by omega))) | exact rfl | (simp only [NLc]; first | exact rfl | done) | exact all0 | exact fun h => Bool.noConfusion h | exact fun _ _ _ _ => rfl | omega)
  · obtain rfl : i = E.n := by omega
    conv => whnf
    repeat' (first
      | (refine NilG.mk fun bn hbn hbx => ?_; conv => whnf)
      | (refine Both.mk ?_ ?_ <;> conv => whnf)
      | ((first | (refine MkG.box 1 rfl rfl rfl (by decide) ?_) | (refine MkG.box 2 rfl rfl rfl (by decide) ?_) | (refine MkG.box 3 rfl rfl rfl (by decide) ?_) | (refine MkG.row ?_)); conv => whnf)
      | (refine LitG.row ?_; conv => whnf)
      | exact trivial
      | (refine Br.mk (fun hb => ?_) (fun hb => ?_) <;> (first | (exfalso; revert hb; decide) | ((try simp only [BL] at hb) <;> (try simp only [DL] at hb) <;> (first | (exfalso; omega) | (conv => whnf)))))
      | (refine And.intro ?_ ?_; (focus (first | exact id | exact rfl | exact trivial | (intro hg; first | exact hg | exact rfl | (simp; done) | (simp at hg ⊢; assumption)) | omega | decide | exact is2_c _ _ _ | exact is1_c _ _ | exact isS_c _ _ | exact isB_c _ _ | exact Nat.le_refl _ | assumption | exact mulLe (by decide) (by omega) | exact mulLe2 (by decide) (by omega) (by omega) | (intros; simp only [BL] at *; omega) | (intros; (try simp only [BL] at *); (try simp only [DL] at *); omega) | (intros; simp only [BL] at *; rw [wr_id (by omega) (by omega)]; omega) | (intro h1 h2; exact Bool.and_eq_true_iff.2 ⟨h1, h2⟩) | (intros; simp_all; done))); conv => whnf)
      | (refine Or.inr (And.intro rfl ?_); first | (refine congrArg intV ?_) | (refine congrArg boolV ?_) | (refine tupII ?_ ?_) | (refine tupIII ?_ ?_ ?_) | (refine tupU ?_ ?_ ?_ ?_ ?_) | exact rfl))
end Go.Proofs.YtjfnhehjhicnoaaDoor
