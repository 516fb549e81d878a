/-
  Convex functions: values, least values, conjugates; the references' list of values.
-/
import Derived.Test.YtogibhkbckfgbaaCvxP
namespace Go.Proofs.Ytogibhkbckfgbaa
open Go.RowKit

theorem okCx.pos {lo v : Int} {n : Nat} {p q : Nat → Int} (h : okCx lo v n p q) : ∀ k, k < n → 1 ≤ p k := fun k hk => (h.2.2.2.2.2.1 k hk).1
theorem okCx.inc {lo v : Int} {n : Nat} {p q : Nat → Int} (h : okCx lo v n p q) : ∀ i j, i < j → j < n → q i < q j := by
  intro i j
  induction j with
  | zero => intro h1; omega
  | succ j ih =>
    intro h1 h2
    have h3 := h.2.2.2.2.2.2.1 j h2
    rcases Nat.lt_succ_iff_lt_or_eq.1 h1 with h4 | rfl
    · have := ih h4 (by omega); omega
    · exact h3
theorem okCx.sS {lo v : Int} {n : Nat} {p q : Nat → Int} (h : okCx lo v n p q) {k : Nat} (hk : k ≤ n) : 0 ≤ S p k ∧ S p k ≤ 2000000 ∧ (k : Int) ≤ S p k ∧ lo + S p k ≤ 1000000 := by
  have h1 := S_le (p := p) (a := 1) (b := 2000000) (k := k) fun j hj => by have := h.2.2.2.2.2.1 j (by omega); omega
  have h2 := h.2.2.2.2.2.2.2 k hk
  have := h.2.1
  omega
theorem okCx.sC {lo v : Int} {n : Nat} {p q : Nat → Int} (h : okCx lo v n p q) (d : Int) {k : Nat} (hk : k < n) : -20000000000000 ≤ ct p q d k ∧ ct p q d k ≤ 20000000000000 := by
  have h1 := h.2.2.2.2.2.1 k hk
  have := mulB (a := min (max (d - S p k) 0) (p k)) (b := q k) (A := 2000000) (B := 10000000) (by omega) (by omega) (by omega) (by omega) (by omega)
  unfold ct
  omega
theorem okCx.sT {lo v : Int} {n : Nat} {p q : Nat → Int} (h : okCx lo v n p q) (d : Int) {k : Nat} (hk : k ≤ n) : -1280000000000000 ≤ S (ct p q d) k ∧ S (ct p q d) k ≤ 1280000000000000 := by
  have := S_le (p := ct p q d) (a := -20000000000000) (b := 20000000000000) (k := k) fun j hj => h.sC d (by omega)
  have := h.1
  omega

theorem cxat (lo v : Int) (n : Nat) (p q : Nat → Int) (x : Int) (h : okCx lo v n p q ∧ lo ≤ x ∧ x ≤ lo + S p n) : Fn1 Try.prog 82 [cxV lo v n p q, intV x] (intV (v + S (ct p q (x - lo)) n)) := by
  refine fn_of_wpx (O := lex) tab_ok gamX1_ok mixed Try.func82 (by kernel_rfl) rfl rfl rfl (by simp [Try.ntmps82]) (by kernel_rfl) ?_
  obtain ⟨h, hx0, hx1⟩ := h
  have hn := h.1
  have hb1 := h.2
  have hSn := h.sS (Nat.le_refl n)
  have e0 : IntKind.i64.wrap (x - lo) = x - lo := wr_id (by omega) (by omega)
  conv => whnf
  repeat' (first
    | (refine NilG.mk fun bn hbn => ?_; conv => whnf)
    | (refine Both.mk ?_ ?_ <;> conv => whnf)
    | exact trivial
    | (refine Br.mk (fun hb => ?_) (fun hb => ?_) <;> (first | (exfalso; revert hb; decide) | ((try simp only [BL] at hb) <;> (try simp only [DL] at hb) <;> conv => whnf)))
    | (refine And.intro ?_ ?_; (focus (first | exact id | exact rfl | exact trivial | (intro hg; first | exact hg | exact rfl | (simp; done) | (simp at hg ⊢; assumption)) | omega | decide | exact is2_c _ _ _ | exact is1_c _ _ | exact isS_c _ _ | exact isB_c _ _ | exact Nat.le_refl _ | assumption | exact mulLe (by decide) (by omega) | exact mulLe2 (by decide) (by omega) (by omega) | (intros; simp only [BL] at *; omega) | (intros; (try simp only [BL] at *); (try simp only [DL] at *); omega) | (intros; simp only [BL] at *; rw [wr_id (by omega) (by omega)]; omega) | (intros; simp_all; done))); conv => whnf)
    | (refine Or.inr (And.intro rfl ?_); first | (refine congrArg intV ?_) | (refine congrArg boolV ?_) | (refine tupII ?_ ?_) | (refine tupIII ?_ ?_ ?_) | (refine tupU ?_ ?_ ?_ ?_ ?_) | exact rfl))
  refine sem_loop tab_ok gamX1_ok mixed (by kernel_rfl) (O := lex) (fun i : Nat => ⟨[(19, intV i), (18, intV n), (17, .c (.sl 2 n (c2 p q))), (5, intV (v + S (ct p q (x - lo)) i)), (6, intV (max (x - lo - S p i) 0))], []⟩) (fun i => i ≤ n) (fun i => n - i) ⟨0, [], Nat.zero_le _, ?_⟩ fun i hi => ?_
  · refine Sub.of ?_ ?_ ?_
    repeat' (first | (refine And.intro ?_ ?_) | exact trivial | (exact congrArg intV (by assumption)) | (refine congrArg intV ((wr_id (by omega) (by omega)).trans (by omega))) | exact rfl | (simp only [Int.toNat_natCast, Int.toNat_zero, Nat.sub_zero, Nat.zero_add]; first | exact rfl | done) | exact all0 | exact fun h => Bool.noConfusion h | exact fun _ _ _ _ => rfl | omega)
    · exact congrArg intV (by simp [S])
    · exact congrArg intV (by rw [e0]; simp only [S]; omega)
  have hS := h.sS hi
  have hC := h.sT (x - lo) hi
  conv => whnf
  repeat' (first
    | (refine NilG.mk fun bn hbn => ?_; conv => whnf)
    | (refine Both.mk ?_ ?_ <;> conv => whnf)
    | exact trivial
    | (refine Br.mk (fun hb => ?_) (fun hb => ?_) <;> (first | (exfalso; revert hb; decide) | ((try simp only [BL] at hb) <;> (try simp only [DL] at hb) <;> conv => whnf)))
    | (refine And.intro ?_ ?_; (focus (first | exact id | exact rfl | exact trivial | (intro hg; first | exact hg | exact rfl | (simp; done) | (simp at hg ⊢; assumption)) | omega | decide | exact is2_c _ _ _ | exact is1_c _ _ | exact isS_c _ _ | exact isB_c _ _ | exact Nat.le_refl _ | assumption | exact mulLe (by decide) (by omega) | exact mulLe2 (by decide) (by omega) (by omega) | (intros; simp only [BL] at *; omega) | (intros; (try simp only [BL] at *); (try simp only [DL] at *); omega) | (intros; simp only [BL] at *; rw [wr_id (by omega) (by omega)]; omega) | (intros; simp_all; done))); conv => whnf)
    | (refine Or.inr (And.intro rfl ?_); first | (refine congrArg intV ?_) | (refine congrArg boolV ?_) | (refine tupII ?_ ?_) | (refine tupIII ?_ ?_ ?_) | (refine tupU ?_ ?_ ?_ ?_ ?_) | exact rfl))
  · have hS1 := h.sS (k := i + 1) (by omega)
    have hp := h.2.2.2.2.2.1 i (by omega)
    have hc := h.sC (x - lo) (k := i) (by omega)
    have hSS : S p (i + 1) = S p i + p i := rfl
    have hCC : S (ct p q (x - lo)) (i + 1) = S (ct p q (x - lo)) i + ct p q (x - lo) i := rfl
    have e1 : IntKind.i64.wrap (min (max (x - lo - S p i) 0) (p i) * q i) = ct p q (x - lo) i := wr_id (by unfold ct at hc; omega) (by unfold ct at hc; omega)
    have e2 : IntKind.i64.wrap (v + S (ct p q (x - lo)) i + IntKind.i64.wrap (min (max (x - lo - S p i) 0) (p i) * q i)) = v + S (ct p q (x - lo)) (i + 1) := by
      rw [e1, hCC]
      exact (wr_id (by omega) (by omega)).trans (by omega)
    have e3 : IntKind.i64.wrap (max (x - lo - S p i) 0 - min (max (x - lo - S p i) 0) (p i)) = max (x - lo - S p (i + 1)) 0 := by
      rw [wr_id (by omega) (by omega)]
      omega
    refine ⟨i + 1, [], by omega, by omega, ?_⟩
    refine Sub.of ?_ ?_ ?_
    repeat' (first | (refine And.intro ?_ ?_) | exact trivial | (exact congrArg intV (by assumption)) | (refine congrArg intV ((wr_id (by omega) (by omega)).trans (by omega))) | exact rfl | (simp only [Int.toNat_natCast, Int.toNat_zero, Nat.sub_zero, Nat.zero_add]; first | exact rfl | done) | exact all0 | exact fun h => Bool.noConfusion h | exact fun _ _ _ _ => rfl | omega)
  · rw [show i = n by omega]

theorem cxhigh (lo v : Int) (n : Nat) (p q : Nat → Int) (h : okCx lo v n p q) : Fn1 Try.prog 81 [cxV lo v n p q] (intV (lo + S p n)) := by
  refine fn_of_wpx (O := lex) tab_ok gamX1_ok mixed Try.func81 (by kernel_rfl) rfl rfl rfl (by simp [Try.ntmps81]) (by kernel_rfl) ?_
  have hn := h.1
  have hb1 := h.2
  conv => whnf
  repeat' (first
    | (refine NilG.mk fun bn hbn => ?_; conv => whnf)
    | (refine Both.mk ?_ ?_ <;> conv => whnf)
    | exact trivial
    | (refine Br.mk (fun hb => ?_) (fun hb => ?_) <;> (first | (exfalso; revert hb; decide) | ((try simp only [BL] at hb) <;> (try simp only [DL] at hb) <;> conv => whnf)))
    | (refine And.intro ?_ ?_; (focus (first | exact id | exact rfl | exact trivial | (intro hg; first | exact hg | exact rfl | (simp; done) | (simp at hg ⊢; assumption)) | omega | decide | exact is2_c _ _ _ | exact is1_c _ _ | exact isS_c _ _ | exact isB_c _ _ | exact Nat.le_refl _ | assumption | exact mulLe (by decide) (by omega) | exact mulLe2 (by decide) (by omega) (by omega) | (intros; simp only [BL] at *; omega) | (intros; (try simp only [BL] at *); (try simp only [DL] at *); omega) | (intros; simp only [BL] at *; rw [wr_id (by omega) (by omega)]; omega) | (intros; simp_all; done))); conv => whnf)
    | (refine Or.inr (And.intro rfl ?_); first | (refine congrArg intV ?_) | (refine congrArg boolV ?_) | (refine tupII ?_ ?_) | (refine tupIII ?_ ?_ ?_) | (refine tupU ?_ ?_ ?_ ?_ ?_) | exact rfl))
  refine sem_loop tab_ok gamX1_ok mixed (by kernel_rfl) (O := lex) (fun i : Nat => ⟨[(11, intV i), (10, intV n), (9, .c (.sl 2 n (c2 p q))), (3, intV (lo + S p i))], []⟩) (fun i => i ≤ n) (fun i => n - i) ⟨0, [], Nat.zero_le _, ?_⟩ fun i hi => ?_
  · refine Sub.of ?_ ?_ ?_
    repeat' (first | (refine And.intro ?_ ?_) | exact trivial | (exact congrArg intV (by assumption)) | (refine congrArg intV ((wr_id (by omega) (by omega)).trans (by omega))) | exact rfl | (simp only [Int.toNat_natCast, Int.toNat_zero, Nat.sub_zero, Nat.zero_add]; first | exact rfl | done) | exact all0 | exact fun h => Bool.noConfusion h | exact fun _ _ _ _ => rfl | omega)
    · exact congrArg intV (by simp [S])
  have hS := h.sS hi
  conv => whnf
  repeat' (first
    | (refine NilG.mk fun bn hbn => ?_; conv => whnf)
    | (refine Both.mk ?_ ?_ <;> conv => whnf)
    | exact trivial
    | (refine Br.mk (fun hb => ?_) (fun hb => ?_) <;> (first | (exfalso; revert hb; decide) | ((try simp only [BL] at hb) <;> (try simp only [DL] at hb) <;> conv => whnf)))
    | (refine And.intro ?_ ?_; (focus (first | exact id | exact rfl | exact trivial | (intro hg; first | exact hg | exact rfl | (simp; done) | (simp at hg ⊢; assumption)) | omega | decide | exact is2_c _ _ _ | exact is1_c _ _ | exact isS_c _ _ | exact isB_c _ _ | exact Nat.le_refl _ | assumption | exact mulLe (by decide) (by omega) | exact mulLe2 (by decide) (by omega) (by omega) | (intros; simp only [BL] at *; omega) | (intros; (try simp only [BL] at *); (try simp only [DL] at *); omega) | (intros; simp only [BL] at *; rw [wr_id (by omega) (by omega)]; omega) | (intros; simp_all; done))); conv => whnf)
    | (refine Or.inr (And.intro rfl ?_); first | (refine congrArg intV ?_) | (refine congrArg boolV ?_) | (refine tupII ?_ ?_) | (refine tupIII ?_ ?_ ?_) | (refine tupU ?_ ?_ ?_ ?_ ?_) | exact rfl))
  · have hS1 := h.sS (k := i + 1) (by omega)
    have hp := h.2.2.2.2.2.1 i (by omega)
    have hSS : S p (i + 1) = S p i + p i := rfl
    have e1 : IntKind.i64.wrap (lo + S p i + p i) = lo + S p (i + 1) := (wr_id (by omega) (by omega)).trans (by omega)
    refine ⟨i + 1, [], by omega, by omega, ?_⟩
    refine Sub.of ?_ ?_ ?_
    repeat' (first | (refine And.intro ?_ ?_) | exact trivial | (exact congrArg intV (by assumption)) | (refine congrArg intV ((wr_id (by omega) (by omega)).trans (by omega))) | exact rfl | (simp only [Int.toNat_natCast, Int.toNat_zero, Nat.sub_zero, Nat.zero_add]; first | exact rfl | done) | exact all0 | exact fun h => Bool.noConfusion h | exact fun _ _ _ _ => rfl | omega)
  · rw [show i = n by omega]

theorem SP1_eq {p q : Nat → Int} {t : Int} {n i : Nat} (hq : ∀ i j, i < j → j < n → q i < q j) (hi : i ≤ n) (h1 : ∀ k, k < i → q k < t) (h2 : i < n → t ≤ q i) : S (SP1 p q t) n = S p i := by
  obtain ⟨j, a1, a2, a3, a4⟩ := SP1_at (p := p) (q := q) (t := t) hq
  rw [a4]
  have : j = i := by
    rcases Nat.lt_trichotomy j i with h | h | h
    · have := h1 j h; have := a3 j (Nat.le_refl _) (by omega); omega
    · exact h
    · have := a2 i h; have := h2 (by omega); omega
  rw [this]

theorem cxlow (lo v : Int) (n : Nat) (p q : Nat → Int) (t : Int) (h : okCx lo v n p q) : Fn1 Try.prog 83 [cxV lo v n p q, intV t] (intV (lo + S (SP1 p q t) n)) := by
  refine fn_of_wpx (O := lex) tab_ok gamX1_ok mixed Try.func83 (by kernel_rfl) rfl rfl rfl (by simp [Try.ntmps83]) (by kernel_rfl) ?_
  have hn := h.1
  have hb1 := h.2
  conv => whnf
  repeat' (first
    | (refine NilG.mk fun bn hbn => ?_; conv => whnf)
    | (refine Both.mk ?_ ?_ <;> conv => whnf)
    | exact trivial
    | (refine Br.mk (fun hb => ?_) (fun hb => ?_) <;> (first | (exfalso; revert hb; decide) | ((try simp only [BL] at hb) <;> (try simp only [DL] at hb) <;> conv => whnf)))
    | (refine And.intro ?_ ?_; (focus (first | exact id | exact rfl | exact trivial | (intro hg; first | exact hg | exact rfl | (simp; done) | (simp at hg ⊢; assumption)) | omega | decide | exact is2_c _ _ _ | exact is1_c _ _ | exact isS_c _ _ | exact isB_c _ _ | exact Nat.le_refl _ | assumption | exact mulLe (by decide) (by omega) | exact mulLe2 (by decide) (by omega) (by omega) | (intros; simp only [BL] at *; omega) | (intros; (try simp only [BL] at *); (try simp only [DL] at *); omega) | (intros; simp only [BL] at *; rw [wr_id (by omega) (by omega)]; omega) | (intros; simp_all; done))); conv => whnf)
    | (refine Or.inr (And.intro rfl ?_); first | (refine congrArg intV ?_) | (refine congrArg boolV ?_) | (refine tupII ?_ ?_) | (refine tupIII ?_ ?_ ?_) | (refine tupU ?_ ?_ ?_ ?_ ?_) | exact rfl))
  refine sem_loop tab_ok gamX1_ok mixed (by kernel_rfl) (O := lex) (fun i : Nat => ⟨[(13, intV i), (12, intV n), (11, .c (.sl 2 n (c2 p q))), (5, intV (lo + S p i)), (1, intV t)], []⟩) (fun i => i ≤ n ∧ ∀ k, k < i → q k < t) (fun i => n - i) ⟨0, [], ⟨Nat.zero_le _, fun k hk => absurd hk (Nat.not_lt_zero _)⟩, ?_⟩ fun i hi => ?_
  · refine Sub.of ?_ ?_ ?_
    repeat' (first | (refine And.intro ?_ ?_) | exact trivial | (exact congrArg intV (by assumption)) | (refine congrArg intV ((wr_id (by omega) (by omega)).trans (by omega))) | exact rfl | (simp only [Int.toNat_natCast, Int.toNat_zero, Nat.sub_zero, Nat.zero_add]; first | exact rfl | done) | exact all0 | exact fun h => Bool.noConfusion h | exact fun _ _ _ _ => rfl | omega)
    · exact congrArg intV (by simp [S])
  have hS := h.sS hi.1
  conv => whnf
  repeat' (first
    | (refine NilG.mk fun bn hbn => ?_; conv => whnf)
    | (refine Both.mk ?_ ?_ <;> conv => whnf)
    | exact trivial
    | (refine Br.mk (fun hb => ?_) (fun hb => ?_) <;> (first | (exfalso; revert hb; decide) | ((try simp only [BL] at hb) <;> (try simp only [DL] at hb) <;> conv => whnf)))
    | (refine And.intro ?_ ?_; (focus (first | exact id | exact rfl | exact trivial | (intro hg; first | exact hg | exact rfl | (simp; done) | (simp at hg ⊢; assumption)) | omega | decide | exact is2_c _ _ _ | exact is1_c _ _ | exact isS_c _ _ | exact isB_c _ _ | exact Nat.le_refl _ | assumption | exact mulLe (by decide) (by omega) | exact mulLe2 (by decide) (by omega) (by omega) | (intros; simp only [BL] at *; omega) | (intros; (try simp only [BL] at *); (try simp only [DL] at *); omega) | (intros; simp only [BL] at *; rw [wr_id (by omega) (by omega)]; omega) | (intros; simp_all; done))); conv => whnf)
    | (refine Or.inr (And.intro rfl ?_); first | (refine congrArg intV ?_) | (refine congrArg boolV ?_) | (refine tupII ?_ ?_) | (refine tupIII ?_ ?_ ?_) | (refine tupU ?_ ?_ ?_ ?_ ?_) | exact rfl))
  · rw [SP1_eq h.inc hi.1 hi.2 (fun _ => by omega)]
  · have hS1 := h.sS (k := i + 1) (by omega)
    have hp := h.2.2.2.2.2.1 i (by omega)
    have hSS : S p (i + 1) = S p i + p i := rfl
    have e1 : IntKind.i64.wrap (lo + S p i + p i) = lo + S p (i + 1) := (wr_id (by omega) (by omega)).trans (by omega)
    refine ⟨i + 1, [], ⟨by omega, fun k hk => by rcases Nat.lt_succ_iff_lt_or_eq.1 hk with h | rfl <;> first | exact hi.2 k h | omega⟩, by omega, ?_⟩
    refine Sub.of ?_ ?_ ?_
    repeat' (first | (refine And.intro ?_ ?_) | exact trivial | (exact congrArg intV (by assumption)) | (refine congrArg intV ((wr_id (by omega) (by omega)).trans (by omega))) | exact rfl | (simp only [Int.toNat_natCast, Int.toNat_zero, Nat.sub_zero, Nat.zero_add]; first | exact rfl | done) | exact all0 | exact fun h => Bool.noConfusion h | exact fun _ _ _ _ => rfl | omega)
  · rw [SP1_eq h.inc hi.1 hi.2 (fun _ => by omega)]

/-- the values, unit by unit -/
def cW (v : Int) (n : Nat) (p q : Nat → Int) (m : Nat) : Int := v + S (ct p q m) n
theorem cW_step {lo v : Int} {n : Nat} {p q : Nat → Int} (h : okCx lo v n p q) {i m : Nat} (hi : i < n) (h0 : S p i ≤ m) (h1 : (m : Int) < S p (i + 1)) : cW v n p q (m + 1) = cW v n p q m + q i := by
  unfold cW
  have := ct_step (q := q) h.pos hi h0 h1
  rw [show ((m + 1 : Nat) : Int) = (m : Int) + 1 by omega, this]
  omega
theorem cW_le {lo v : Int} {n : Nat} {p q : Nat → Int} (h : okCx lo v n p q) (m : Nat) : -3000000000000000 ≤ cW v n p q m ∧ cW v n p q m ≤ 3000000000000000 := by
  have := h.sT m (Nat.le_refl n)
  have := h.2
  unfold cW
  omega
def cxT (n : Nat) (p : Nat → Int) : Nat := (S p n).toNat
def valK (v : Int) (n : Nat) (p q : Nat → Int) (obs : List OB) (r : AV) : Prop := obs = [] ∧ r = .c (.sl 1 (cxT n p + 1) (c1 (cW v n p q)))

set_option maxHeartbeats 1000000 in
theorem cxValues (lo v : Int) (n : Nat) (p q : Nat → Int) (h : okCx lo v n p q) : Fn Try.prog 52 [cxV lo v n p q] (valK v n p q) := by
  refine fn_of_wpx (O := lex) tab_ok gamX1_ok mixed Try.func52 (by kernel_rfl) rfl rfl rfl (by simp [Try.ntmps52]) (by kernel_rfl) ?_
  have hn := h.1
  have hb1 := h.2
  conv => whnf
  repeat' (first
    | (refine NilG.mk fun bn hbn => ?_; conv => whnf)
    | (refine Both.mk ?_ ?_ <;> conv => whnf)
    | exact trivial
    | (refine Br.mk (fun hb => ?_) (fun hb => ?_) <;> (first | (exfalso; revert hb; decide) | ((try simp only [BL] at hb) <;> (try simp only [DL] at hb) <;> conv => whnf)))
    | (refine And.intro ?_ ?_; (focus (first | exact id | exact rfl | exact trivial | (intro hg; first | exact hg | exact rfl | (simp; done) | (simp at hg ⊢; assumption)) | omega | decide | exact is2_c _ _ _ | exact is1_c _ _ | exact isS_c _ _ | exact isB_c _ _ | exact Nat.le_refl _ | assumption | exact mulLe (by decide) (by omega) | exact mulLe2 (by decide) (by omega) (by omega) | (intros; simp only [BL] at *; omega) | (intros; (try simp only [BL] at *); (try simp only [DL] at *); omega) | (intros; simp only [BL] at *; rw [wr_id (by omega) (by omega)]; omega) | (intros; simp_all; done))); conv => whnf)
    | (refine Or.inr (And.intro rfl ?_); first | (refine congrArg intV ?_) | (refine congrArg boolV ?_) | (refine tupII ?_ ?_) | (refine tupIII ?_ ?_ ?_) | (refine tupU ?_ ?_ ?_ ?_ ?_) | exact rfl))
  refine sem_loop tab_ok gamX1_ok mixed (by kernel_rfl) (O := lex) (fun i : Nat => ⟨[(12, intV i), (11, intV n), (10, .c (.sl 2 n (c2 p q))), (3, .own 0)], [.row 3 1 ((S p i).toNat + 1) false (c1 (cW v n p q))]⟩) (fun i => i ≤ n) (fun i => n - i) ⟨0, [?_], Nat.zero_le _, ?_⟩ fun i hi => ?_
  rotate_left 1
  · refine Sub.of ?_ ?_ ?_
    repeat' (first | (refine And.intro ?_ ?_) | exact trivial | (exact congrArg intV (by assumption)) | (refine congrArg intV ((wr_id (by omega) (by omega)).trans (by omega))) | exact rfl | (simp only [Int.toNat_natCast, Int.toNat_zero, Nat.sub_zero, Nat.zero_add]; first | exact rfl | done) | exact all0 | exact fun h => Bool.noConfusion h | exact fun _ _ _ _ => rfl | omega)
    · refine allD1 (all1 ?_)
      show L.v (.int .i64 v) = L.v (.int .i64 (cW v n p q 0))
      unfold cW
      rw [show ((0 : Nat) : Int) = 0 from rfl, ct_zero h.pos, Int.add_zero]
  have hS := h.sS hi
  conv => whnf
  repeat' (first
    | (refine NilG.mk fun bn hbn => ?_; conv => whnf)
    | (refine Both.mk ?_ ?_ <;> conv => whnf)
    | exact trivial
    | (refine Br.mk (fun hb => ?_) (fun hb => ?_) <;> (first | (exfalso; revert hb; decide) | ((try simp only [BL] at hb) <;> (try simp only [DL] at hb) <;> conv => whnf)))
    | (refine And.intro ?_ ?_; (focus (first | exact id | exact rfl | exact trivial | (intro hg; first | exact hg | exact rfl | (simp; done) | (simp at hg ⊢; assumption)) | omega | decide | exact is2_c _ _ _ | exact is1_c _ _ | exact isS_c _ _ | exact isB_c _ _ | exact Nat.le_refl _ | assumption | exact mulLe (by decide) (by omega) | exact mulLe2 (by decide) (by omega) (by omega) | (intros; simp only [BL] at *; omega) | (intros; (try simp only [BL] at *); (try simp only [DL] at *); omega) | (intros; simp only [BL] at *; rw [wr_id (by omega) (by omega)]; omega) | (intros; simp_all; done))); conv => whnf)
    | (refine Or.inr (And.intro rfl ?_); first | (refine congrArg intV ?_) | (refine congrArg boolV ?_) | (refine tupII ?_ ?_) | (refine tupIII ?_ ?_ ?_) | (refine tupU ?_ ?_ ?_ ?_ ?_) | exact rfl))
  · have hS1 := h.sS (k := i + 1) (by omega)
    have hp := h.2.2.2.2.2.1 i (by omega)
    have hSS : S p (i + 1) = S p i + p i := rfl
    refine sem_loop tab_ok gamX1_ok mixed (by kernel_rfl) (O := lex) (fun j : Nat => ⟨[(12, intV i), (11, intV n), (10, .c (.sl 2 n (c2 p q))), (3, .own 0), (5, .lp 1 0), (17, intV (p i)), (18, intV j)], [.row 3 1 ((S p i).toNat + j + 1) false (c1 (cW v n p q)), .box [intV (p i), intV (q i)]]⟩) (fun j => (j : Int) ≤ p i) (fun j => (p i).toNat - j) ⟨0, [?_, ?_], by omega, ?_⟩ fun j hj => ?_
    rotate_left 2
    · refine Sub.of ?_ ?_ ?_
      repeat' (first | (refine And.intro ?_ ?_) | exact trivial | (exact congrArg intV (by assumption)) | (refine congrArg intV ((wr_id (by omega) (by omega)).trans (by omega))) | exact rfl | (simp only [Int.toNat_natCast, Int.toNat_zero, Nat.sub_zero, Nat.zero_add]; first | exact rfl | done) | exact all0 | exact fun h => Bool.noConfusion h | exact fun _ _ _ _ => rfl | omega)
    have hc := cW_le h ((S p i).toNat + j)
    have e0 : IntKind.i64.wrap (((S p i).toNat + j + 1 : Nat) - 1 : Int) = ((S p i).toNat + j : Nat) := (wr_id (by omega) (by omega)).trans (by omega)
    conv => whnf
    repeat' (first
      | (refine NilG.mk fun bn hbn => ?_; conv => whnf)
      | (refine Both.mk ?_ ?_ <;> conv => whnf)
      | exact trivial
      | (refine Br.mk (fun hb => ?_) (fun hb => ?_) <;> (first | (exfalso; revert hb; decide) | ((try simp only [BL] at hb) <;> (try simp only [DL] at hb) <;> conv => whnf)))
      | (refine And.intro ?_ ?_; (focus (first | exact id | exact rfl | exact trivial | (intro hg; first | exact hg | exact rfl | (simp; done) | (simp at hg ⊢; assumption)) | omega | decide | exact is2_c _ _ _ | exact is1_c _ _ | exact isS_c _ _ | exact isB_c _ _ | exact Nat.le_refl _ | assumption | exact mulLe (by decide) (by omega) | exact mulLe2 (by decide) (by omega) (by omega) | (intros; simp only [BL] at *; omega) | (intros; (try simp only [BL] at *); (try simp only [DL] at *); omega) | (intros; simp only [BL] at *; rw [wr_id (by omega) (by omega)]; omega) | (intros; simp_all; done))); conv => whnf)
      | (refine Or.inr (And.intro rfl ?_); first | (refine congrArg intV ?_) | (refine congrArg boolV ?_) | (refine tupII ?_ ?_) | (refine tupIII ?_ ?_ ?_) | (refine tupU ?_ ?_ ?_ ?_ ?_) | exact rfl))
    · have e1 : ((S p i).toNat + j + 1 : Nat) - 1 = (S p i).toNat + j := rfl
      have hst := cW_step h (i := i) (m := (S p i).toNat + j) (by omega) (by omega) (by omega)
      have hq := h.2.2.2.2.2.1 i (by omega)
      have hw : IntKind.i64.wrap (cW v n p q ((S p i).toNat + j) + q i) = cW v n p q ((S p i).toNat + j + 1) := (wr_id (by omega) (by omega)).trans hst.symm
      refine ⟨j + 1, [?_, ?_], by omega, by omega, ?_⟩
      rotate_left 2
      refine Sub.of ?_ ?_ ?_
      repeat' (first | (refine And.intro ?_ ?_) | exact trivial | (exact congrArg intV (by assumption)) | (refine congrArg intV ((wr_id (by omega) (by omega)).trans (by omega))) | exact rfl | (simp only [Int.toNat_natCast, Int.toNat_zero, Nat.sub_zero, Nat.zero_add]; first | exact rfl | done) | exact all0 | exact fun h => Bool.noConfusion h | exact fun _ _ _ _ => rfl | omega)
      intro aq haq bq hbq
      by_cases hltq : aq < (S p i).toNat + j + 1
      · exact if_pos hltq
      · obtain rfl : aq = (S p i).toNat + j + 1 := by omega
        refine (if_neg hltq).trans ?_
        rw [Nat.sub_self]
        revert bq hbq
        refine all1 (by refine congrArg (fun z => L.v (.int .i64 z)) ?_; rw [e0, Int.toNat_natCast]; exact hw)
    · refine ⟨i + 1, [?_], by omega, by omega, ?_⟩
      rotate_left 1
      refine Sub.of ?_ ?_ ?_
      repeat' (first | (refine And.intro ?_ ?_) | exact trivial | (exact congrArg intV (by assumption)) | (refine congrArg intV ((wr_id (by omega) (by omega)).trans (by omega))) | exact rfl | (simp only [Int.toNat_natCast, Int.toNat_zero, Nat.sub_zero, Nat.zero_add]; first | exact rfl | done) | exact all0 | exact fun h => Bool.noConfusion h | exact fun _ _ _ _ => rfl | omega)
  · obtain rfl : i = n := by omega
    exact .inr ⟨rfl, rfl⟩

def gamX2 : Gam := fun f => match f with
  | 47 => some (sCx (fun _ _ n _ _ => n ≤ maxLen) fun lo v n p q => intV (cxE lo v n p q))
  | 80 => some (s2i (fun _ m => 0 ≤ m ∧ m ≤ 1000000000000000000) outM)
  | 82 => some (sCxi (fun lo v n p q x => okCx lo v n p q ∧ lo ≤ x ∧ x ≤ lo + S p n) fun lo v n p q x => intV (v + S (ct p q (x - lo)) n))
  | 81 => some (sCx okCx fun lo _ n p _ => intV (lo + S p n))
  | 83 => some (sCxi (fun lo v n p q _ => okCx lo v n p q) fun lo _ n p q t => intV (lo + S (SP1 p q t) n))
  | _ => none
theorem gamX2_ok : GOk Try.prog gamX2 := fun f g h => by
  unfold gamX2 at h
  split at h
  · injection h with h; subst h; exact sCx_ok cxCheck
  · injection h with h; subst h; exact s2i_ok cxout
  · injection h with h; subst h; exact sCxi_ok cxat
  · injection h with h; subst h; exact sCx_ok cxhigh
  · injection h with h; subst h; exact sCxi_ok cxlow
  · cases h

theorem cxHigh (lo v : Int) (n : Nat) (p q : Nat → Int) (hn : n ≤ maxLen) : Fn1 Try.prog 51 [cxV lo v n p q] (.tup [intV (if cxE lo v n p q = 0 then lo + S p n else 0), intV (cxE lo v n p q)]) := by
  refine fn_of_wpx (O := lex) tab_ok gamX2_ok mixed Try.func51 (by kernel_rfl) rfl rfl rfl (by simp [Try.ntmps51]) (by kernel_rfl) ?_
  conv => whnf
  repeat' (first
    | (refine NilG.mk fun bn hbn => ?_; conv => whnf)
    | (refine Both.mk ?_ ?_ <;> conv => whnf)
    | exact trivial
    | (refine Br.mk (fun hb => ?_) (fun hb => ?_) <;> (first | (exfalso; revert hb; decide) | ((try simp only [BL] at hb) <;> (try simp only [DL] at hb) <;> conv => whnf)))
    | (refine And.intro ?_ ?_; (focus (first | exact id | exact rfl | exact trivial | (intro hg; first | exact hg | exact rfl | (simp; done) | (simp at hg ⊢; assumption)) | omega | decide | exact is2_c _ _ _ | exact is1_c _ _ | exact isS_c _ _ | exact isB_c _ _ | exact Nat.le_refl _ | assumption | exact mulLe (by decide) (by omega) | exact mulLe2 (by decide) (by omega) (by omega) | (intros; simp only [BL] at *; omega) | (intros; (try simp only [BL] at *); (try simp only [DL] at *); omega) | (intros; simp only [BL] at *; rw [wr_id (by omega) (by omega)]; omega) | (intros; simp_all; done) | first | exact ⟨is2_c _ _ _, hn⟩ | exact ⟨is2_c _ _ _, cxE_zero hb⟩)); conv => whnf)
    | (refine Or.inr (And.intro rfl ?_); first | (refine congrArg intV ?_) | (refine congrArg boolV ?_) | (refine tupII ?_ ?_) | (refine tupIII ?_ ?_ ?_) | (refine tupU ?_ ?_ ?_ ?_ ?_) | exact rfl))
  all_goals first | rfl | (simp only [DL]; simp_all; done) | (simp_all; done)

/-- the error of an argument -/
def atE (lo v : Int) (n : Nat) (p q : Nat → Int) (x : Int) : Int := if cxE lo v n p q ≠ 0 then cxE lo v n p q else if x < lo ∨ lo + S p n < x then 4 else 0
theorem cxAt (lo v : Int) (n : Nat) (p q : Nat → Int) (x : Int) (hn : n ≤ maxLen) : Fn1 Try.prog 48 [cxV lo v n p q, intV x] (.tup [intV (if atE lo v n p q x = 0 then v + S (ct p q (x - lo)) n else 0), intV (atE lo v n p q x)]) := by
  refine fn_of_wpx (O := lex) tab_ok gamX2_ok mixed Try.func48 (by kernel_rfl) rfl rfl rfl (by simp [Try.ntmps48]) (by kernel_rfl) ?_
  conv => whnf
  repeat' (first
    | (refine NilG.mk fun bn hbn => ?_; conv => whnf)
    | (refine Both.mk ?_ ?_ <;> conv => whnf)
    | exact trivial
    | (refine Br.mk (fun hb => ?_) (fun hb => ?_) <;> (first | (exfalso; revert hb; decide) | ((try simp only [BL] at hb) <;> (try simp only [DL] at hb) <;> conv => whnf)))
    | (refine And.intro ?_ ?_; (focus (first | exact id | exact rfl | exact trivial | (intro hg; first | exact hg | exact rfl | (simp; done) | (simp at hg ⊢; assumption)) | omega | decide | exact is2_c _ _ _ | exact is1_c _ _ | exact isS_c _ _ | exact isB_c _ _ | exact Nat.le_refl _ | assumption | exact mulLe (by decide) (by omega) | exact mulLe2 (by decide) (by omega) (by omega) | (intros; simp only [BL] at *; omega) | (intros; (try simp only [BL] at *); (try simp only [DL] at *); omega) | (intros; simp only [BL] at *; rw [wr_id (by omega) (by omega)]; omega) | (intros; simp_all; done) | first | exact ⟨is2_c _ _ _, hn⟩ | exact ⟨is2_c _ _ _, cxE_zero hb⟩ | exact fun _ => ⟨is2_c _ _ _, cxE_zero hb⟩)); conv => whnf)
    | (refine Or.inr (And.intro rfl ?_); first | (refine congrArg intV ?_) | (refine congrArg boolV ?_) | (refine tupII ?_ ?_) | (refine tupIII ?_ ?_ ?_) | (refine tupU ?_ ?_ ?_ ?_ ?_) | exact rfl))
  · have hE : atE lo v n p q x = cxE lo v n p q := if_pos hb
    rw [hE, if_neg hb]
  · have hE : atE lo v n p q x = cxE lo v n p q := if_pos hb
    rw [hE]
    rfl
  · rename_i h1
    have h0 : cxE lo v n p q = 0 := h1
    have hE : atE lo v n p q x = 4 := by unfold atE; rw [if_neg (fun h => h h0), if_pos (by omega)]
    rw [hE]
    rfl
  · rename_i h1
    have h0 : cxE lo v n p q = 0 := h1
    have hE : atE lo v n p q x = 4 := by unfold atE; rw [if_neg (fun h => h h0), if_pos (by omega)]
    exact hE.symm
  · rename_i h1
    have h0 : cxE lo v n p q = 0 := h1
    have hE : atE lo v n p q x = 0 := by unfold atE; rw [if_neg (fun h => h h0), if_neg (by omega)]
    refine And.intro (⟨is2_c _ _ _, cxE_zero h0, by omega, by simp only [DL] at *; omega⟩) ?_
    conv => whnf
    repeat' (first
      | (refine NilG.mk fun bn hbn => ?_; conv => whnf)
      | (refine Both.mk ?_ ?_ <;> conv => whnf)
      | exact trivial
      | (refine Br.mk (fun hb => ?_) (fun hb => ?_) <;> (first | (exfalso; revert hb; decide) | ((try simp only [BL] at hb) <;> (try simp only [DL] at hb) <;> conv => whnf)))
      | (refine And.intro ?_ ?_; (focus (first | exact id | exact rfl | exact trivial | (intro hg; first | exact hg | exact rfl | (simp; done) | (simp at hg ⊢; assumption)) | omega | decide | exact is2_c _ _ _ | exact is1_c _ _ | exact isS_c _ _ | exact isB_c _ _ | exact Nat.le_refl _ | assumption | exact mulLe (by decide) (by omega) | exact mulLe2 (by decide) (by omega) (by omega) | (intros; simp only [BL] at *; omega) | (intros; (try simp only [BL] at *); (try simp only [DL] at *); omega) | (intros; simp only [BL] at *; rw [wr_id (by omega) (by omega)]; omega) | (intros; simp_all; done))); conv => whnf)
      | (refine Or.inr (And.intro rfl ?_); first | (refine congrArg intV ?_) | (refine congrArg boolV ?_) | (refine tupII ?_ ?_) | (refine tupIII ?_ ?_ ?_) | (refine tupU ?_ ?_ ?_ ?_ ?_) | exact rfl))
    · rw [if_pos hE]; rfl
    · exact hE.symm

theorem cxLeast (lo v : Int) (n : Nat) (p q : Nat → Int) (hn : n ≤ maxLen) : Fn1 Try.prog 49 [cxV lo v n p q] (.tup [intV (if cxE lo v n p q = 0 then lo + S (SP1 p q 0) n else 0), intV (if cxE lo v n p q = 0 then v + S (ct p q (S (SP1 p q 0) n)) n else 0), intV (cxE lo v n p q)]) := by
  refine fn_of_wpx (O := lex) tab_ok gamX2_ok mixed Try.func49 (by kernel_rfl) rfl rfl rfl (by simp [Try.ntmps49]) (by kernel_rfl) ?_
  conv => whnf
  repeat' (first
    | (refine NilG.mk fun bn hbn => ?_; conv => whnf)
    | (refine Both.mk ?_ ?_ <;> conv => whnf)
    | exact trivial
    | (refine Br.mk (fun hb => ?_) (fun hb => ?_) <;> (first | (exfalso; revert hb; decide) | ((try simp only [BL] at hb) <;> (try simp only [DL] at hb) <;> conv => whnf)))
    | (refine And.intro ?_ ?_; (focus (first | exact id | exact rfl | exact trivial | (intro hg; first | exact hg | exact rfl | (simp; done) | (simp at hg ⊢; assumption)) | omega | decide | exact is2_c _ _ _ | exact is1_c _ _ | exact isS_c _ _ | exact isB_c _ _ | exact Nat.le_refl _ | assumption | exact mulLe (by decide) (by omega) | exact mulLe2 (by decide) (by omega) (by omega) | (intros; simp only [BL] at *; omega) | (intros; (try simp only [BL] at *); (try simp only [DL] at *); omega) | (intros; simp only [BL] at *; rw [wr_id (by omega) (by omega)]; omega) | (intros; simp_all; done) | first | exact ⟨is2_c _ _ _, hn⟩ | exact ⟨is2_c _ _ _, cxE_zero hb⟩ | (have hP := SP1_in (q := q) (cxE_zero hb).pos 0; exact ⟨is2_c _ _ _, cxE_zero hb, by simp only [DL]; omega, by simp only [DL]; omega⟩))); conv => whnf)
    | (refine Or.inr (And.intro rfl ?_); first | (refine congrArg intV ?_) | (refine congrArg boolV ?_) | (refine tupII ?_ ?_) | (refine tupIII ?_ ?_ ?_) | (refine tupU ?_ ?_ ?_ ?_ ?_) | exact rfl))
  iterate 3
    · have h0 : ¬ cxE lo v n p q = 0 := hb
      first | exact (if_neg h0).symm | rfl
  · exact (if_pos hb).symm
  · rw [if_pos hb]
    simp only [DL]
    rw [show lo + S (SP1 p q 0) n - lo = S (SP1 p q 0) n by omega]
  · exact hb.symm

/-- the error of a slope -/
def cjE (lo v : Int) (n : Nat) (p q : Nat → Int) (t : Int) : Int := if cxE lo v n p q ≠ 0 then cxE lo v n p q else if t < -10000000 ∨ 10000000 < t then 4 else 0
theorem cxConj (lo v : Int) (n : Nat) (p q : Nat → Int) (t : Int) (hn : n ≤ maxLen) : Fn1 Try.prog 50 [cxV lo v n p q, intV t] (.tup [intV (if cjE lo v n p q t = 0 then t * (lo + S (SP1 p q t) n) - (v + S (ct p q (S (SP1 p q t) n)) n) else 0), intV (cjE lo v n p q t)]) := by
  refine fn_of_wpx (O := lex) tab_ok gamX2_ok mixed Try.func50 (by kernel_rfl) rfl rfl rfl (by simp [Try.ntmps50]) (by kernel_rfl) ?_
  conv => whnf
  repeat' (first
    | (refine NilG.mk fun bn hbn => ?_; conv => whnf)
    | (refine Both.mk ?_ ?_ <;> conv => whnf)
    | exact trivial
    | (refine Br.mk (fun hb => ?_) (fun hb => ?_) <;> (first | (exfalso; revert hb; decide) | ((try simp only [BL] at hb) <;> (try simp only [DL] at hb) <;> conv => whnf)))
    | (refine And.intro ?_ ?_; (focus (first | exact id | exact rfl | exact trivial | (intro hg; first | exact hg | exact rfl | (simp; done) | (simp at hg ⊢; assumption)) | omega | decide | exact is2_c _ _ _ | exact is1_c _ _ | exact isS_c _ _ | exact isB_c _ _ | exact Nat.le_refl _ | assumption | exact mulLe (by decide) (by omega) | exact mulLe2 (by decide) (by omega) (by omega) | (intros; simp only [BL] at *; omega) | (intros; (try simp only [BL] at *); (try simp only [DL] at *); omega) | (intros; simp only [BL] at *; rw [wr_id (by omega) (by omega)]; omega) | (intros; simp_all; done) | first | exact ⟨is2_c _ _ _, hn⟩ | exact ⟨is2_c _ _ _, cxE_zero (by assumption)⟩)); conv => whnf)
    | (refine Or.inr (And.intro rfl ?_); first | (refine congrArg intV ?_) | (refine congrArg boolV ?_) | (refine tupII ?_ ?_) | (refine tupIII ?_ ?_ ?_) | (refine tupU ?_ ?_ ?_ ?_ ?_) | exact rfl))
  · have hE : cjE lo v n p q t = cxE lo v n p q := if_pos hb
    rw [hE, if_neg hb]
  · exact (if_pos hb).symm
  · rename_i h1
    have hE : cjE lo v n p q t = 4 := by unfold cjE; rw [if_neg (fun h => h h1), if_pos (by omega)]
    rw [hE]
    rfl
  · rename_i h1
    have hE : cjE lo v n p q t = 4 := by unfold cjE; rw [if_neg (fun h => h h1), if_pos (by omega)]
    exact hE.symm
  · rename_i h1
    have hE : cjE lo v n p q t = 0 := by unfold cjE; rw [if_neg (fun h => h h1), if_neg (by omega)]
    have h := cxE_zero h1
    have hP := SP1_in (q := q) h.pos t
    have hS := h.sS (Nat.le_refl n)
    have hC := h.sT (S (SP1 p q t) n) (Nat.le_refl n)
    have hb1 := h.2
    refine And.intro (⟨is2_c _ _ _, h, by simp only [DL]; omega, by simp only [DL]; omega⟩) ?_
    conv => whnf
    repeat' (first
      | (refine NilG.mk fun bn hbn => ?_; conv => whnf)
      | (refine Both.mk ?_ ?_ <;> conv => whnf)
      | exact trivial
      | (refine Br.mk (fun hb => ?_) (fun hb => ?_) <;> (first | (exfalso; revert hb; decide) | ((try simp only [BL] at hb) <;> (try simp only [DL] at hb) <;> conv => whnf)))
      | (refine And.intro ?_ ?_; (focus (first | exact id | exact rfl | exact trivial | (intro hg; first | exact hg | exact rfl | (simp; done) | (simp at hg ⊢; assumption)) | omega | decide | exact is2_c _ _ _ | exact is1_c _ _ | exact isS_c _ _ | exact isB_c _ _ | exact Nat.le_refl _ | assumption | exact mulLe (by decide) (by omega) | exact mulLe2 (by decide) (by omega) (by omega) | (intros; simp only [BL] at *; omega) | (intros; (try simp only [BL] at *); (try simp only [DL] at *); omega) | (intros; simp only [BL] at *; rw [wr_id (by omega) (by omega)]; omega) | (intros; simp_all; done))); conv => whnf)
      | (refine Or.inr (And.intro rfl ?_); first | (refine congrArg intV ?_) | (refine congrArg boolV ?_) | (refine tupII ?_ ?_) | (refine tupIII ?_ ?_ ?_) | (refine tupU ?_ ?_ ?_ ?_ ?_) | exact rfl))
    · simp only [DL]
      rw [if_pos hE, show lo + S (SP1 p q t) n - lo = S (SP1 p q t) n by omega]
      have hm := mulB (a := t + 10000000) (b := lo + S (SP1 p q t) n) (A := 20000000) (B := 1000000) (by omega) (by omega) (by omega) (by omega) (by omega)
      rw [Int.add_mul] at hm
      rw [wr_id (x := t * (lo + S (SP1 p q t) n)) (by omega) (by omega)]
      exact wr_id (by omega) (by omega)
    · exact hE.symm

end Go.Proofs.Ytogibhkbckfgbaa
