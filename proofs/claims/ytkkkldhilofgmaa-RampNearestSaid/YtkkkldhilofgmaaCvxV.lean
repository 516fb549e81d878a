/-
  Convex functions: their values; the reference's list of values.
-/
import Derived.Test.YtkkkldhilofgmaaCvxP
namespace Go.Proofs.Ytkkkldhilofgmaa
open Go.RowKit

theorem okCx.pos {lo v : Int} {n : Nat} {p q : Nat → Int} (h : okCx lo v n p q) : ∀ k, k < n → 1 ≤ p k := fun k hk => (h.2.2.2.2.2.1 k hk).1
theorem okCx.inc {lo v : Int} {n : Nat} {p q : Nat → Int} (h : okCx lo v n p q) : ∀ i j, i < j → j < n → q i < q j := by
  intro i j
  induction j with
  | zero => intro h1; omega
  | succ j ih =>
    intro h1 h2
    have h3 := h.2.2.2.2.2.2.1 j h2
    rcases Nat.lt_succ_iff_lt_or_eq.1 h1 with h4 | rfl
    · have := ih h4 (by omega); omega
    · exact h3
theorem okCx.sS {lo v : Int} {n : Nat} {p q : Nat → Int} (h : okCx lo v n p q) {k : Nat} (hk : k ≤ n) : 0 ≤ S p k ∧ S p k ≤ 2000000 ∧ (k : Int) ≤ S p k ∧ lo + S p k ≤ 1000000 := by
  have h1 := S_le (p := p) (a := 1) (b := 2000000) (k := k) fun j hj => by have := h.2.2.2.2.2.1 j (by omega); omega
  have h2 := h.2.2.2.2.2.2.2 k hk
  have := h.2.1
  omega
theorem okCx.sC {lo v : Int} {n : Nat} {p q : Nat → Int} (h : okCx lo v n p q) (d : Int) {k : Nat} (hk : k < n) : -20000000000000 ≤ ct p q d k ∧ ct p q d k ≤ 20000000000000 := by
  have h1 := h.2.2.2.2.2.1 k hk
  have := mulB (a := min (max (d - S p k) 0) (p k)) (b := q k) (A := 2000000) (B := 10000000) (by omega) (by omega) (by omega) (by omega) (by omega)
  unfold ct
  omega
theorem okCx.sT {lo v : Int} {n : Nat} {p q : Nat → Int} (h : okCx lo v n p q) (d : Int) {k : Nat} (hk : k ≤ n) : -1280000000000000 ≤ S (ct p q d) k ∧ S (ct p q d) k ≤ 1280000000000000 := by
  have := S_le (p := ct p q d) (a := -20000000000000) (b := 20000000000000) (k := k) fun j hj => h.sC d (by omega)
  have := h.1
  omega

theorem cxat (lo v : Int) (n : Nat) (p q : Nat → Int) (x : Int) (h : okCx lo v n p q ∧ lo ≤ x ∧ x ≤ lo + S p n) : Fn1 Try.prog 68 [cxV lo v n p q, intV x] (intV (v + S (ct p q (x - lo)) n)) := by
  refine fn_of_wpx (O := lex) tab_ok gamX1_ok mixed Try.func68 (by kernel_rfl) rfl rfl rfl (by simp [Try.ntmps68]) (by kernel_rfl) ?_
  obtain ⟨h, hx0, hx1⟩ := h
  have hn := h.1
  have hb1 := h.2
  have hSn := h.sS (Nat.le_refl n)
  have e0 : IntKind.i64.wrap (x - lo) = x - lo := wr_id (by omega) (by omega)
  conv => whnf
  repeat' (first
    | (refine NilG.mk fun bn hbn hbx => ?_; conv => whnf)
    | (refine Both.mk ?_ ?_ <;> conv => whnf)
    | exact trivial
    | (refine Br.mk (fun hb => ?_) (fun hb => ?_) <;> (first | (exfalso; revert hb; decide) | ((try simp only [BL] at hb) <;> (try simp only [DL] at hb) <;> conv => whnf)))
    | (refine And.intro ?_ ?_; (focus (first | exact id | exact rfl | exact trivial | (intro hg; first | exact hg | exact rfl | (simp; done) | (simp at hg ⊢; assumption)) | omega | decide | exact is2_c _ _ _ | exact is1_c _ _ | exact isS_c _ _ | exact isB_c _ _ | exact Nat.le_refl _ | assumption | exact mulLe (by decide) (by omega) | exact mulLe2 (by decide) (by omega) (by omega) | (intros; simp only [BL] at *; omega) | (intros; (try simp only [BL] at *); (try simp only [DL] at *); omega) | (intros; simp only [BL] at *; rw [wr_id (by omega) (by omega)]; omega) | (intro h1 h2; exact Bool.and_eq_true_iff.2 ⟨h1, h2⟩) | (intros; simp_all; done))); conv => whnf)
    | (refine Or.inr (And.intro rfl ?_); first | (refine congrArg intV ?_) | (refine congrArg boolV ?_) | (refine tupII ?_ ?_) | (refine tupIII ?_ ?_ ?_) | (refine tupU ?_ ?_ ?_ ?_ ?_) | exact rfl))
  refine sem_loop tab_ok gamX1_ok mixed (by kernel_rfl) (O := lex) (fun i : Nat => ⟨[(19, intV i), (18, intV n), (17, .c (.sl 2 n (c2 p q))), (5, intV (v + S (ct p q (x - lo)) i)), (6, intV (max (x - lo - S p i) 0))], []⟩) (fun i => i ≤ n) (fun i => n - i) ⟨0, [], Nat.zero_le _, ?_⟩ fun i hi => ?_
  · refine Sub.of ?_ ?_ ?_
    repeat' (first | (refine And.intro ?_ ?_) | exact trivial | exact fun _ _ _ => hsc _ _ | (exact congrArg intV (by first | with_reducible rfl | with_reducible assumption)) | exact (rfl : AV.idsLt _ _ = true) | exact (rfl : _ = AV.ren _ (.own _)) | exact (rfl : _ = AV.ren _ (.fn _ _)) | exact (rfl : _ = AV.ren _ (.gh _)) | (exact congrArg intV (by assumption)) | (refine congrArg intV ((wr_id (by omega) (by omega)).trans (by omega))) | exact rfl | (simp only [Int.toNat_natCast, Int.toNat_zero, Nat.sub_zero, Nat.zero_add]; first | exact rfl | done) | exact all0 | exact fun h => Bool.noConfusion h | exact fun _ _ _ _ => rfl | omega)
    · exact congrArg intV (by simp [S])
    · exact congrArg intV (by rw [e0]; simp only [S]; omega)
  have hS := h.sS hi
  have hC := h.sT (x - lo) hi
  conv => whnf
  repeat' (first
    | (refine NilG.mk fun bn hbn hbx => ?_; conv => whnf)
    | (refine Both.mk ?_ ?_ <;> conv => whnf)
    | exact trivial
    | (refine Br.mk (fun hb => ?_) (fun hb => ?_) <;> (first | (exfalso; revert hb; decide) | ((try simp only [BL] at hb) <;> (try simp only [DL] at hb) <;> conv => whnf)))
    | (refine And.intro ?_ ?_; (focus (first | exact id | exact rfl | exact trivial | (intro hg; first | exact hg | exact rfl | (simp; done) | (simp at hg ⊢; assumption)) | omega | decide | exact is2_c _ _ _ | exact is1_c _ _ | exact isS_c _ _ | exact isB_c _ _ | exact Nat.le_refl _ | assumption | exact mulLe (by decide) (by omega) | exact mulLe2 (by decide) (by omega) (by omega) | (intros; simp only [BL] at *; omega) | (intros; (try simp only [BL] at *); (try simp only [DL] at *); omega) | (intros; simp only [BL] at *; rw [wr_id (by omega) (by omega)]; omega) | (intro h1 h2; exact Bool.and_eq_true_iff.2 ⟨h1, h2⟩) | (intros; simp_all; done))); conv => whnf)
    | (refine Or.inr (And.intro rfl ?_); first | (refine congrArg intV ?_) | (refine congrArg boolV ?_) | (refine tupII ?_ ?_) | (refine tupIII ?_ ?_ ?_) | (refine tupU ?_ ?_ ?_ ?_ ?_) | exact rfl))
  · have hS1 := h.sS (k := i + 1) (by omega)
    have hp := h.2.2.2.2.2.1 i (by omega)
    have hc := h.sC (x - lo) (k := i) (by omega)
    have hSS : S p (i + 1) = S p i + p i := rfl
    have hCC : S (ct p q (x - lo)) (i + 1) = S (ct p q (x - lo)) i + ct p q (x - lo) i := rfl
    have e1 : IntKind.i64.wrap (min (max (x - lo - S p i) 0) (p i) * q i) = ct p q (x - lo) i := wr_id (by unfold ct at hc; omega) (by unfold ct at hc; omega)
    have e2 : IntKind.i64.wrap (v + S (ct p q (x - lo)) i + IntKind.i64.wrap (min (max (x - lo - S p i) 0) (p i) * q i)) = v + S (ct p q (x - lo)) (i + 1) := by
      rw [e1, hCC]
      exact (wr_id (by omega) (by omega)).trans (by omega)
    have e3 : IntKind.i64.wrap (max (x - lo - S p i) 0 - min (max (x - lo - S p i) 0) (p i)) = max (x - lo - S p (i + 1)) 0 := by
      rw [wr_id (by omega) (by omega)]
      omega
    refine ⟨i + 1, [], by omega, by omega, ?_⟩
    refine Sub.of ?_ ?_ ?_
    repeat' (first | (refine And.intro ?_ ?_) | exact trivial | exact fun _ _ _ => hsc _ _ | (exact congrArg intV (by first | with_reducible rfl | with_reducible assumption)) | exact (rfl : AV.idsLt _ _ = true) | exact (rfl : _ = AV.ren _ (.own _)) | exact (rfl : _ = AV.ren _ (.fn _ _)) | exact (rfl : _ = AV.ren _ (.gh _)) | (exact congrArg intV (by assumption)) | (refine congrArg intV ((wr_id (by omega) (by omega)).trans (by omega))) | exact rfl | (simp only [Int.toNat_natCast, Int.toNat_zero, Nat.sub_zero, Nat.zero_add]; first | exact rfl | done) | exact all0 | exact fun h => Bool.noConfusion h | exact fun _ _ _ _ => rfl | omega)
  · rw [show i = n by omega]

theorem cxhigh (lo v : Int) (n : Nat) (p q : Nat → Int) (h : okCx lo v n p q) : Fn1 Try.prog 65 [cxV lo v n p q] (intV (lo + S p n)) := by
  refine fn_of_wpx (O := lex) tab_ok gamX1_ok mixed Try.func65 (by kernel_rfl) rfl rfl rfl (by simp [Try.ntmps65]) (by kernel_rfl) ?_
  have hn := h.1
  have hb1 := h.2
  conv => whnf
  repeat' (first
    | (refine NilG.mk fun bn hbn hbx => ?_; conv => whnf)
    | (refine Both.mk ?_ ?_ <;> conv => whnf)
    | exact trivial
    | (refine Br.mk (fun hb => ?_) (fun hb => ?_) <;> (first | (exfalso; revert hb; decide) | ((try simp only [BL] at hb) <;> (try simp only [DL] at hb) <;> conv => whnf)))
    | (refine And.intro ?_ ?_; (focus (first | exact id | exact rfl | exact trivial | (intro hg; first | exact hg | exact rfl | (simp; done) | (simp at hg ⊢; assumption)) | omega | decide | exact is2_c _ _ _ | exact is1_c _ _ | exact isS_c _ _ | exact isB_c _ _ | exact Nat.le_refl _ | assumption | exact mulLe (by decide) (by omega) | exact mulLe2 (by decide) (by omega) (by omega) | (intros; simp only [BL] at *; omega) | (intros; (try simp only [BL] at *); (try simp only [DL] at *); omega) | (intros; simp only [BL] at *; rw [wr_id (by omega) (by omega)]; omega) | (intro h1 h2; exact Bool.and_eq_true_iff.2 ⟨h1, h2⟩) | (intros; simp_all; done))); conv => whnf)
    | (refine Or.inr (And.intro rfl ?_); first | (refine congrArg intV ?_) | (refine congrArg boolV ?_) | (refine tupII ?_ ?_) | (refine tupIII ?_ ?_ ?_) | (refine tupU ?_ ?_ ?_ ?_ ?_) | exact rfl))
  refine sem_loop tab_ok gamX1_ok mixed (by kernel_rfl) (O := lex) (fun i : Nat => ⟨[(11, intV i), (10, intV n), (9, .c (.sl 2 n (c2 p q))), (3, intV (lo + S p i))], []⟩) (fun i => i ≤ n) (fun i => n - i) ⟨0, [], Nat.zero_le _, ?_⟩ fun i hi => ?_
  · refine Sub.of ?_ ?_ ?_
    repeat' (first | (refine And.intro ?_ ?_) | exact trivial | exact fun _ _ _ => hsc _ _ | (exact congrArg intV (by first | with_reducible rfl | with_reducible assumption)) | exact (rfl : AV.idsLt _ _ = true) | exact (rfl : _ = AV.ren _ (.own _)) | exact (rfl : _ = AV.ren _ (.fn _ _)) | exact (rfl : _ = AV.ren _ (.gh _)) | (exact congrArg intV (by assumption)) | (refine congrArg intV ((wr_id (by omega) (by omega)).trans (by omega))) | exact rfl | (simp only [Int.toNat_natCast, Int.toNat_zero, Nat.sub_zero, Nat.zero_add]; first | exact rfl | done) | exact all0 | exact fun h => Bool.noConfusion h | exact fun _ _ _ _ => rfl | omega)
    · exact congrArg intV (by simp [S])
  have hS := h.sS hi
  conv => whnf
  repeat' (first
    | (refine NilG.mk fun bn hbn hbx => ?_; conv => whnf)
    | (refine Both.mk ?_ ?_ <;> conv => whnf)
    | exact trivial
    | (refine Br.mk (fun hb => ?_) (fun hb => ?_) <;> (first | (exfalso; revert hb; decide) | ((try simp only [BL] at hb) <;> (try simp only [DL] at hb) <;> conv => whnf)))
    | (refine And.intro ?_ ?_; (focus (first | exact id | exact rfl | exact trivial | (intro hg; first | exact hg | exact rfl | (simp; done) | (simp at hg ⊢; assumption)) | omega | decide | exact is2_c _ _ _ | exact is1_c _ _ | exact isS_c _ _ | exact isB_c _ _ | exact Nat.le_refl _ | assumption | exact mulLe (by decide) (by omega) | exact mulLe2 (by decide) (by omega) (by omega) | (intros; simp only [BL] at *; omega) | (intros; (try simp only [BL] at *); (try simp only [DL] at *); omega) | (intros; simp only [BL] at *; rw [wr_id (by omega) (by omega)]; omega) | (intro h1 h2; exact Bool.and_eq_true_iff.2 ⟨h1, h2⟩) | (intros; simp_all; done))); conv => whnf)
    | (refine Or.inr (And.intro rfl ?_); first | (refine congrArg intV ?_) | (refine congrArg boolV ?_) | (refine tupII ?_ ?_) | (refine tupIII ?_ ?_ ?_) | (refine tupU ?_ ?_ ?_ ?_ ?_) | exact rfl))
  · have hS1 := h.sS (k := i + 1) (by omega)
    have hp := h.2.2.2.2.2.1 i (by omega)
    have hSS : S p (i + 1) = S p i + p i := rfl
    have e1 : IntKind.i64.wrap (lo + S p i + p i) = lo + S p (i + 1) := (wr_id (by omega) (by omega)).trans (by omega)
    refine ⟨i + 1, [], by omega, by omega, ?_⟩
    refine Sub.of ?_ ?_ ?_
    repeat' (first | (refine And.intro ?_ ?_) | exact trivial | exact fun _ _ _ => hsc _ _ | (exact congrArg intV (by first | with_reducible rfl | with_reducible assumption)) | exact (rfl : AV.idsLt _ _ = true) | exact (rfl : _ = AV.ren _ (.own _)) | exact (rfl : _ = AV.ren _ (.fn _ _)) | exact (rfl : _ = AV.ren _ (.gh _)) | (exact congrArg intV (by assumption)) | (refine congrArg intV ((wr_id (by omega) (by omega)).trans (by omega))) | exact rfl | (simp only [Int.toNat_natCast, Int.toNat_zero, Nat.sub_zero, Nat.zero_add]; first | exact rfl | done) | exact all0 | exact fun h => Bool.noConfusion h | exact fun _ _ _ _ => rfl | omega)
  · rw [show i = n by omega]

/-- the values, unit by unit -/
def cW (v : Int) (n : Nat) (p q : Nat → Int) (m : Nat) : Int := v + S (ct p q m) n
theorem cW_step {lo v : Int} {n : Nat} {p q : Nat → Int} (h : okCx lo v n p q) {i m : Nat} (hi : i < n) (h0 : S p i ≤ m) (h1 : (m : Int) < S p (i + 1)) : cW v n p q (m + 1) = cW v n p q m + q i := by
  unfold cW
  have := ct_step (q := q) h.pos hi h0 h1
  rw [show ((m + 1 : Nat) : Int) = (m : Int) + 1 by omega, this]
  omega
theorem cW_le {lo v : Int} {n : Nat} {p q : Nat → Int} (h : okCx lo v n p q) (m : Nat) : -3000000000000000 ≤ cW v n p q m ∧ cW v n p q m ≤ 3000000000000000 := by
  have := h.sT m (Nat.le_refl n)
  have := h.2
  unfold cW
  omega
def cxT (n : Nat) (p : Nat → Int) : Nat := (S p n).toNat
def valK (v : Int) (n : Nat) (p q : Nat → Int) (obs : List OB) (r : AV) : Prop := obs = [] ∧ r = .c (.sl 1 (cxT n p + 1) (c1 (cW v n p q)))

set_option maxHeartbeats 1000000 in
theorem cxValues (lo v : Int) (n : Nat) (p q : Nat → Int) (h : okCx lo v n p q) : Fn Try.prog 20 [cxV lo v n p q] (valK v n p q) := by
  refine fn_of_wpx (O := lex) tab_ok gamX1_ok mixed Try.func20 (by kernel_rfl) rfl rfl rfl (by simp [Try.ntmps20]) (by kernel_rfl) ?_
  have hn := h.1
  have hb1 := h.2
  conv => whnf
  repeat' (first
    | (refine NilG.mk fun bn hbn hbx => ?_; conv => whnf)
    | (refine Both.mk ?_ ?_ <;> conv => whnf)
    | exact trivial
    | (refine Br.mk (fun hb => ?_) (fun hb => ?_) <;> (first | (exfalso; revert hb; decide) | ((try simp only [BL] at hb) <;> (try simp only [DL] at hb) <;> conv => whnf)))
    | (refine And.intro ?_ ?_; (focus (first | exact id | exact rfl | exact trivial | (intro hg; first | exact hg | exact rfl | (simp; done) | (simp at hg ⊢; assumption)) | omega | decide | exact is2_c _ _ _ | exact is1_c _ _ | exact isS_c _ _ | exact isB_c _ _ | exact Nat.le_refl _ | assumption | exact mulLe (by decide) (by omega) | exact mulLe2 (by decide) (by omega) (by omega) | (intros; simp only [BL] at *; omega) | (intros; (try simp only [BL] at *); (try simp only [DL] at *); omega) | (intros; simp only [BL] at *; rw [wr_id (by omega) (by omega)]; omega) | (intro h1 h2; exact Bool.and_eq_true_iff.2 ⟨h1, h2⟩) | (intros; simp_all; done))); conv => whnf)
    | (refine Or.inr (And.intro rfl ?_); first | (refine congrArg intV ?_) | (refine congrArg boolV ?_) | (refine tupII ?_ ?_) | (refine tupIII ?_ ?_ ?_) | (refine tupU ?_ ?_ ?_ ?_ ?_) | exact rfl))
  refine sem_loop tab_ok gamX1_ok mixed (by kernel_rfl) (O := lex) (fun i : Nat => ⟨[(12, intV i), (11, intV n), (10, .c (.sl 2 n (c2 p q))), (3, .own 0)], [.row 3 1 ((S p i).toNat + 1) false (c1 (cW v n p q))]⟩) (fun i => i ≤ n) (fun i => n - i) ⟨0, [?_], Nat.zero_le _, ?_⟩ fun i hi => ?_
  rotate_left 1
  · refine Sub.of ?_ ?_ ?_
    repeat' (first | (refine And.intro ?_ ?_) | exact trivial | exact fun _ _ _ => hsc _ _ | (exact congrArg intV (by first | with_reducible rfl | with_reducible assumption)) | exact (rfl : AV.idsLt _ _ = true) | exact (rfl : _ = AV.ren _ (.own _)) | exact (rfl : _ = AV.ren _ (.fn _ _)) | exact (rfl : _ = AV.ren _ (.gh _)) | (exact congrArg intV (by assumption)) | (refine congrArg intV ((wr_id (by omega) (by omega)).trans (by omega))) | exact rfl | (simp only [Int.toNat_natCast, Int.toNat_zero, Nat.sub_zero, Nat.zero_add]; first | exact rfl | done) | exact all0 | exact fun h => Bool.noConfusion h | exact fun _ _ _ _ => rfl | omega)
    · refine allD1 (all1 ?_)
      show L.v (.int .i64 v) = L.v (.int .i64 (cW v n p q 0))
      unfold cW
      rw [show ((0 : Nat) : Int) = 0 from rfl, ct_zero h.pos, Int.add_zero]
  have hS := h.sS hi
  conv => whnf
  repeat' (first
    | (refine NilG.mk fun bn hbn hbx => ?_; conv => whnf)
    | (refine Both.mk ?_ ?_ <;> conv => whnf)
    | exact trivial
    | (refine Br.mk (fun hb => ?_) (fun hb => ?_) <;> (first | (exfalso; revert hb; decide) | ((try simp only [BL] at hb) <;> (try simp only [DL] at hb) <;> conv => whnf)))
    | (refine And.intro ?_ ?_; (focus (first | exact id | exact rfl | exact trivial | (intro hg; first | exact hg | exact rfl | (simp; done) | (simp at hg ⊢; assumption)) | omega | decide | exact is2_c _ _ _ | exact is1_c _ _ | exact isS_c _ _ | exact isB_c _ _ | exact Nat.le_refl _ | assumption | exact mulLe (by decide) (by omega) | exact mulLe2 (by decide) (by omega) (by omega) | (intros; simp only [BL] at *; omega) | (intros; (try simp only [BL] at *); (try simp only [DL] at *); omega) | (intros; simp only [BL] at *; rw [wr_id (by omega) (by omega)]; omega) | (intro h1 h2; exact Bool.and_eq_true_iff.2 ⟨h1, h2⟩) | (intros; simp_all; done))); conv => whnf)
    | (refine Or.inr (And.intro rfl ?_); first | (refine congrArg intV ?_) | (refine congrArg boolV ?_) | (refine tupII ?_ ?_) | (refine tupIII ?_ ?_ ?_) | (refine tupU ?_ ?_ ?_ ?_ ?_) | exact rfl))
  · have hS1 := h.sS (k := i + 1) (by omega)
    have hp := h.2.2.2.2.2.1 i (by omega)
    have hSS : S p (i + 1) = S p i + p i := rfl
    refine sem_loop tab_ok gamX1_ok mixed (by kernel_rfl) (O := lex) (fun j : Nat => ⟨[(12, intV i), (11, intV n), (10, .c (.sl 2 n (c2 p q))), (3, .own 0), (5, .lp 1 0), (17, intV (p i)), (18, intV j)], [.row 3 1 ((S p i).toNat + j + 1) false (c1 (cW v n p q)), .box [intV (p i), intV (q i)]]⟩) (fun j => (j : Int) ≤ p i) (fun j => (p i).toNat - j) ⟨0, [?_, ?_], by omega, ?_⟩ fun j hj => ?_
    rotate_left 2
    · refine Sub.of ?_ ?_ ?_
      repeat' (first | (refine And.intro ?_ ?_) | exact trivial | exact fun _ _ _ => hsc _ _ | (exact congrArg intV (by first | with_reducible rfl | with_reducible assumption)) | exact (rfl : AV.idsLt _ _ = true) | exact (rfl : _ = AV.ren _ (.own _)) | exact (rfl : _ = AV.ren _ (.fn _ _)) | exact (rfl : _ = AV.ren _ (.gh _)) | (exact congrArg intV (by assumption)) | (refine congrArg intV ((wr_id (by omega) (by omega)).trans (by omega))) | exact rfl | (simp only [Int.toNat_natCast, Int.toNat_zero, Nat.sub_zero, Nat.zero_add]; first | exact rfl | done) | exact all0 | exact fun h => Bool.noConfusion h | exact fun _ _ _ _ => rfl | omega)
    have hc := cW_le h ((S p i).toNat + j)
    have e0 : IntKind.i64.wrap (((S p i).toNat + j + 1 : Nat) - 1 : Int) = ((S p i).toNat + j : Nat) := (wr_id (by omega) (by omega)).trans (by omega)
    conv => whnf
    repeat' (first
      | (refine NilG.mk fun bn hbn hbx => ?_; conv => whnf)
      | (refine Both.mk ?_ ?_ <;> conv => whnf)
      | exact trivial
      | (refine Br.mk (fun hb => ?_) (fun hb => ?_) <;> (first | (exfalso; revert hb; decide) | ((try simp only [BL] at hb) <;> (try simp only [DL] at hb) <;> conv => whnf)))
      | (refine And.intro ?_ ?_; (focus (first | exact id | exact rfl | exact trivial | (intro hg; first | exact hg | exact rfl | (simp; done) | (simp at hg ⊢; assumption)) | omega | decide | exact is2_c _ _ _ | exact is1_c _ _ | exact isS_c _ _ | exact isB_c _ _ | exact Nat.le_refl _ | assumption | exact mulLe (by decide) (by omega) | exact mulLe2 (by decide) (by omega) (by omega) | (intros; simp only [BL] at *; omega) | (intros; (try simp only [BL] at *); (try simp only [DL] at *); omega) | (intros; simp only [BL] at *; rw [wr_id (by omega) (by omega)]; omega) | (intro h1 h2; exact Bool.and_eq_true_iff.2 ⟨h1, h2⟩) | (intros; simp_all; done))); conv => whnf)
      | (refine Or.inr (And.intro rfl ?_); first | (refine congrArg intV ?_) | (refine congrArg boolV ?_) | (refine tupII ?_ ?_) | (refine tupIII ?_ ?_ ?_) | (refine tupU ?_ ?_ ?_ ?_ ?_) | exact rfl))
    · have e1 : ((S p i).toNat + j + 1 : Nat) - 1 = (S p i).toNat + j := rfl
      have hst := cW_step h (i := i) (m := (S p i).toNat + j) (by omega) (by omega) (by omega)
      have hq := h.2.2.2.2.2.1 i (by omega)
      have hw : IntKind.i64.wrap (cW v n p q ((S p i).toNat + j) + q i) = cW v n p q ((S p i).toNat + j + 1) := (wr_id (by omega) (by omega)).trans hst.symm
      refine ⟨j + 1, [?_, ?_], by omega, by omega, ?_⟩
      rotate_left 2
      refine Sub.of ?_ ?_ ?_
      repeat' (first | (refine And.intro ?_ ?_) | exact trivial | exact fun _ _ _ => hsc _ _ | (exact congrArg intV (by first | with_reducible rfl | with_reducible assumption)) | exact (rfl : AV.idsLt _ _ = true) | exact (rfl : _ = AV.ren _ (.own _)) | exact (rfl : _ = AV.ren _ (.fn _ _)) | exact (rfl : _ = AV.ren _ (.gh _)) | (exact congrArg intV (by assumption)) | (refine congrArg intV ((wr_id (by omega) (by omega)).trans (by omega))) | exact rfl | (simp only [Int.toNat_natCast, Int.toNat_zero, Nat.sub_zero, Nat.zero_add]; first | exact rfl | done) | exact all0 | exact fun h => Bool.noConfusion h | exact fun _ _ _ _ => rfl | omega)
      intro aq haq bq hbq
      by_cases hltq : aq < (S p i).toNat + j + 1
      · exact if_pos hltq
      · obtain rfl : aq = (S p i).toNat + j + 1 := by omega
        refine (if_neg hltq).trans ?_
        rw [Nat.sub_self]
        revert bq hbq
        refine all1 (by refine congrArg (fun z => L.v (.int .i64 z)) ?_; rw [e0, Int.toNat_natCast]; exact hw)
    · refine ⟨i + 1, [?_], by omega, by omega, ?_⟩
      rotate_left 1
      refine Sub.of ?_ ?_ ?_
      repeat' (first | (refine And.intro ?_ ?_) | exact trivial | exact fun _ _ _ => hsc _ _ | (exact congrArg intV (by first | with_reducible rfl | with_reducible assumption)) | exact (rfl : AV.idsLt _ _ = true) | exact (rfl : _ = AV.ren _ (.own _)) | exact (rfl : _ = AV.ren _ (.fn _ _)) | exact (rfl : _ = AV.ren _ (.gh _)) | (exact congrArg intV (by assumption)) | (refine congrArg intV ((wr_id (by omega) (by omega)).trans (by omega))) | exact rfl | (simp only [Int.toNat_natCast, Int.toNat_zero, Nat.sub_zero, Nat.zero_add]; first | exact rfl | done) | exact all0 | exact fun h => Bool.noConfusion h | exact fun _ _ _ _ => rfl | omega)
  · obtain rfl : i = n := by omega
    exact .inr ⟨rfl, rfl⟩

def gamXA : Gam := fun f => match f with
  | 101 => some (sCx (fun _ _ n _ _ => n ≤ maxLen) fun lo v n p q => intV (cxE lo v n p q))
  | 68 => some (sCxi (fun lo v n p q x => okCx lo v n p q ∧ lo ≤ x ∧ x ≤ lo + S p n) fun lo v n p q x => intV (v + S (ct p q (x - lo)) n))
  | 65 => some (sCx okCx fun lo _ n p _ => intV (lo + S p n))
  | _ => none
theorem gamXA_ok : GOk Try.prog gamXA := fun f g h => by
  unfold gamXA at h
  split at h
  · injection h with h; subst h; exact sCx_ok cxCheck
  · injection h with h; subst h; exact sCxi_ok cxat
  · injection h with h; subst h; exact sCx_ok cxhigh
  · cases h

/-- the error of an argument -/
def atE (lo v : Int) (n : Nat) (p q : Nat → Int) (x : Int) : Int := if cxE lo v n p q ≠ 0 then cxE lo v n p q else if x < lo ∨ lo + S p n < x then 4 else 0
theorem cxAt (lo v : Int) (n : Nat) (p q : Nat → Int) (x : Int) (hn : n ≤ maxLen) : Fn1 Try.prog 62 [cxV lo v n p q, intV x] (.tup [intV (if atE lo v n p q x = 0 then v + S (ct p q (x - lo)) n else 0), intV (atE lo v n p q x)]) := by
  refine fn_of_wpx (O := lex) tab_ok gamXA_ok mixed Try.func62 (by kernel_rfl) rfl rfl rfl (by simp [Try.ntmps62]) (by kernel_rfl) ?_
  conv => whnf
  repeat' (first
    | (refine NilG.mk fun bn hbn hbx => ?_; conv => whnf)
    | (refine Both.mk ?_ ?_ <;> conv => whnf)
    | exact trivial
    | (refine Br.mk (fun hb => ?_) (fun hb => ?_) <;> (first | (exfalso; revert hb; decide) | ((try simp only [BL] at hb) <;> (try simp only [DL] at hb) <;> conv => whnf)))
    | (refine And.intro ?_ ?_; (focus (first | exact id | exact rfl | exact trivial | (intro hg; first | exact hg | exact rfl | (simp; done) | (simp at hg ⊢; assumption)) | omega | decide | exact is2_c _ _ _ | exact is1_c _ _ | exact isS_c _ _ | exact isB_c _ _ | exact Nat.le_refl _ | assumption | exact mulLe (by decide) (by omega) | exact mulLe2 (by decide) (by omega) (by omega) | (intros; simp only [BL] at *; omega) | (intros; (try simp only [BL] at *); (try simp only [DL] at *); omega) | (intros; simp only [BL] at *; rw [wr_id (by omega) (by omega)]; omega) | (intro h1 h2; exact Bool.and_eq_true_iff.2 ⟨h1, h2⟩) | first | exact ⟨is2_c _ _ _, hn⟩ | exact ⟨is2_c _ _ _, cxE_zero hb⟩ | exact fun _ => ⟨is2_c _ _ _, cxE_zero hb⟩ | (intros; simp_all; done))); conv => whnf)
    | (refine Or.inr (And.intro rfl ?_); first | (refine congrArg intV ?_) | (refine congrArg boolV ?_) | (refine tupII ?_ ?_) | (refine tupIII ?_ ?_ ?_) | (refine tupU ?_ ?_ ?_ ?_ ?_) | exact rfl))
  · have hE : atE lo v n p q x = cxE lo v n p q := if_pos hb
    rw [hE, if_neg hb]
  · have hE : atE lo v n p q x = cxE lo v n p q := if_pos hb
    rw [hE]
    rfl
  · rename_i h1
    have h0 : cxE lo v n p q = 0 := h1
    have hE : atE lo v n p q x = 4 := by unfold atE; rw [if_neg (fun h => h h0), if_pos (by omega)]
    rw [hE]
    rfl
  · rename_i h1
    have h0 : cxE lo v n p q = 0 := h1
    have hE : atE lo v n p q x = 4 := by unfold atE; rw [if_neg (fun h => h h0), if_pos (by omega)]
    exact hE.symm
  · rename_i h1
    have h0 : cxE lo v n p q = 0 := h1
    have hE : atE lo v n p q x = 0 := by unfold atE; rw [if_neg (fun h => h h0), if_neg (by omega)]
    refine And.intro (⟨is2_c _ _ _, cxE_zero h0, by omega, by simp only [DL] at *; omega⟩) ?_
    conv => whnf
    repeat' (first
      | (refine NilG.mk fun bn hbn hbx => ?_; conv => whnf)
      | (refine Both.mk ?_ ?_ <;> conv => whnf)
      | exact trivial
      | (refine Br.mk (fun hb => ?_) (fun hb => ?_) <;> (first | (exfalso; revert hb; decide) | ((try simp only [BL] at hb) <;> (try simp only [DL] at hb) <;> conv => whnf)))
      | (refine And.intro ?_ ?_; (focus (first | exact id | exact rfl | exact trivial | (intro hg; first | exact hg | exact rfl | (simp; done) | (simp at hg ⊢; assumption)) | omega | decide | exact is2_c _ _ _ | exact is1_c _ _ | exact isS_c _ _ | exact isB_c _ _ | exact Nat.le_refl _ | assumption | exact mulLe (by decide) (by omega) | exact mulLe2 (by decide) (by omega) (by omega) | (intros; simp only [BL] at *; omega) | (intros; (try simp only [BL] at *); (try simp only [DL] at *); omega) | (intros; simp only [BL] at *; rw [wr_id (by omega) (by omega)]; omega) | (intro h1 h2; exact Bool.and_eq_true_iff.2 ⟨h1, h2⟩) | (intros; simp_all; done))); conv => whnf)
      | (refine Or.inr (And.intro rfl ?_); first | (refine congrArg intV ?_) | (refine congrArg boolV ?_) | (refine tupII ?_ ?_) | (refine tupIII ?_ ?_ ?_) | (refine tupU ?_ ?_ ?_ ?_ ?_) | exact rfl))
    · rw [if_pos hE]; rfl
    · exact hE.symm

end Go.Proofs.Ytkkkldhilofgmaa
