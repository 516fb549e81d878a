/-
  Convex functions: made, cut, Restrict, Move, Turn; lists that are the same.
-/
import Derived.Test.YtkkkldhilofgmaaCvxV
namespace Go.Proofs.Ytkkkldhilofgmaa
open Go.RowKit

/-- no function -/
def nulV : AV := .agg [intV 0, intV 0, .c (.v (.slice none 0 0))]
def madeK (lo v : Int) (k : Nat) (p q : Nat → Int) (obs : List OB) (r : AV) : Prop :=
  obs = [] ∧ ((cxE lo v k p q = 0 ∧ r = .tup [cxV lo v k p q, intV 0]) ∨ (cxE lo v k p q ≠ 0 ∧ r = .tup [nulV, intV 2]))
theorem cxmade (lo v : Int) (k : Nat) (p q : Nat → Int) (hk : k ≤ 64) (hq : ∀ i, i + 1 < k → q i < q (i + 1)) : Fn Try.prog 67 [intV lo, intV v, .c (.sl 2 k (c2 p q))] (madeK lo v k p q) := by
  refine fn_of_wpx (O := lex) tab_ok gamXA_ok mixed Try.func67 (by kernel_rfl) rfl rfl rfl (by simp [Try.ntmps67]) (by kernel_rfl) ?_
  conv => whnf
  repeat' (first
    | (refine NilG.mk fun bn hbn hbx => ?_; conv => whnf)
    | (refine Both.mk ?_ ?_ <;> conv => whnf)
    | exact trivial
    | (refine Br.mk (fun hb => ?_) (fun hb => ?_) <;> (first | (exfalso; revert hb; decide) | ((try simp only [BL] at hb) <;> (try simp only [DL] at hb) <;> conv => whnf)))
    | (refine And.intro ?_ ?_; (focus (first | exact id | exact rfl | exact trivial | (intro hg; first | exact hg | exact rfl | (simp; done) | (simp at hg ⊢; assumption)) | omega | decide | exact is2_c _ _ _ | exact is1_c _ _ | exact isS_c _ _ | exact isB_c _ _ | exact Nat.le_refl _ | assumption | exact mulLe (by decide) (by omega) | exact mulLe2 (by decide) (by omega) (by omega) | (intros; simp only [BL] at *; omega) | (intros; (try simp only [BL] at *); (try simp only [DL] at *); omega) | (intros; simp only [BL] at *; rw [wr_id (by omega) (by omega)]; omega) | (intro h1 h2; exact Bool.and_eq_true_iff.2 ⟨h1, h2⟩) | (intros; simp_all; done))); conv => whnf)
    | (refine Or.inr (And.intro rfl ?_); first | (refine congrArg intV ?_) | (refine congrArg boolV ?_) | (refine tupII ?_ ?_) | (refine tupIII ?_ ?_ ?_) | (refine tupU ?_ ?_ ?_ ?_ ?_) | exact rfl))
  refine LoopG.nilC 1 2 47 2 rfl rfl ?_
  refine sem_loop tab_ok gamXA_ok mixed (by kernel_rfl) (O := lex) (fun i : Nat => ⟨[(6, .lp 0 0), (8, .lp 1 0), (15, .c (.sl 2 k (c2 p q))), (16, intV k), (17, intV i)], [.box [intV 0, intV 0, .c (.v (.slice none 0 0))], .box [intV lo, intV v, .own 2], .row 47 2 i false (c2 p q)]⟩) (fun i => i ≤ k) (fun i => k - i) ⟨0, [?_, ?_, ?_], Nat.zero_le _, ?_⟩ fun i hi => ?_
  rotate_left 3
  · refine Sub.of ?_ ?_ ?_
    repeat' (first | (refine And.intro ?_ ?_) | exact trivial | exact fun _ _ _ => hsc _ _ | (exact congrArg intV (by first | with_reducible rfl | with_reducible assumption)) | exact (rfl : AV.idsLt _ _ = true) | exact (rfl : _ = AV.ren _ (.own _)) | exact (rfl : _ = AV.ren _ (.fn _ _)) | exact (rfl : _ = AV.ren _ (.gh _)) | (exact congrArg intV (by assumption)) | (refine congrArg intV ((wr_id (by omega) (by omega)).trans (by omega))) | exact rfl | (simp only [Int.toNat_natCast, Int.toNat_zero, Nat.sub_zero, Nat.zero_add]; first | exact rfl | done) | exact all0 | exact fun h => Bool.noConfusion h | exact fun _ _ _ _ => rfl | omega)
  have ei : 0 < i → (IntKind.i64.wrap ((i : Int) - 1)).toNat = i - 1 := fun h0 => by rw [wr_id (by omega) (by omega)]; omega
  conv => whnf
  repeat' (first
    | (refine NilG.mk fun bn hbn hbx => ?_; conv => whnf)
    | (refine Both.mk ?_ ?_ <;> conv => whnf)
    | exact trivial
    | (refine Br.mk (fun hb => ?_) (fun hb => ?_) <;> (first | (exfalso; revert hb; decide) | ((try simp only [BL] at hb) <;> (try simp only [DL] at hb) <;> conv => whnf)))
    | (refine And.intro ?_ ?_; (focus (first | exact id | exact rfl | exact trivial | (intro hg; first | exact hg | exact rfl | (simp; done) | (simp at hg ⊢; assumption)) | omega | decide | exact is2_c _ _ _ | exact is1_c _ _ | exact isS_c _ _ | exact isB_c _ _ | exact Nat.le_refl _ | assumption | exact mulLe (by decide) (by omega) | exact mulLe2 (by decide) (by omega) (by omega) | (intros; simp only [BL] at *; omega) | (intros; (try simp only [BL] at *); (try simp only [DL] at *); omega) | (intros; simp only [BL] at *; rw [wr_id (by omega) (by omega)]; omega) | (intro h1 h2; exact Bool.and_eq_true_iff.2 ⟨h1, h2⟩) | first | exact fun h => ⟨rfl, by have h0 : (i : Int) > 0 := of_decide_eq_true h; rw [ei (by omega)]; omega, by decide⟩ | exact ⟨is2_c _ _ _, show i ≤ maxLen by unfold maxLen; omega⟩ | (intros; simp_all; done))); conv => whnf)
    | (refine Or.inr (And.intro rfl ?_); first | (refine congrArg intV ?_) | (refine congrArg boolV ?_) | (refine tupII ?_ ?_) | (refine tupIII ?_ ?_ ?_) | (refine tupU ?_ ?_ ?_ ?_ ?_) | exact rfl))
  · exfalso
    have h0 : (i : Int) > 0 := hb.1
    have h1 := hq (i - 1) (by omega)
    have h2 := hb.2
    rw [ei (by omega)] at h2
    rw [show i - 1 + 1 = i by omega] at h1
    omega
  · refine ⟨i + 1, [?_, ?_, ?_], by omega, by omega, ?_⟩
    rotate_left 3
    refine Sub.of ?_ ?_ ?_
    repeat' (first | (refine And.intro ?_ ?_) | exact trivial | exact fun _ _ _ => hsc _ _ | (exact congrArg intV (by first | with_reducible rfl | with_reducible assumption)) | exact (rfl : AV.idsLt _ _ = true) | exact (rfl : _ = AV.ren _ (.own _)) | exact (rfl : _ = AV.ren _ (.fn _ _)) | exact (rfl : _ = AV.ren _ (.gh _)) | (exact congrArg intV (by assumption)) | (refine congrArg intV ((wr_id (by omega) (by omega)).trans (by omega))) | exact rfl | (simp only [Int.toNat_natCast, Int.toNat_zero, Nat.sub_zero, Nat.zero_add]; first | exact rfl | done) | exact all0 | exact fun h => Bool.noConfusion h | exact fun _ _ _ _ => rfl | omega)
    intro aq haq bq hbq
    by_cases hltq : aq < i
    · exact if_pos hltq
    · obtain rfl : aq = i := by omega
      refine (if_neg hltq).trans ?_
      rw [Nat.sub_self]
      revert bq hbq
      refine all2 rfl rfl
  · have h0 : ¬ cxE lo v i p q = 0 := hb
    obtain rfl : i = k := by omega
    exact .inr ⟨rfl, .inr ⟨h0, rfl⟩⟩
  · have h0 : cxE lo v i p q = 0 := hb
    obtain rfl : i = k := by omega
    exact .inr ⟨rfl, .inl ⟨h0, rfl⟩⟩

theorem sameInts (n m : Nat) (x y : Nat → Int) (h : n ≤ 9000000 ∧ m = n ∧ ∀ i, i < n → x i = y i) : Fn1 Try.prog 23 [.c (.sl 1 n (c1 x)), .c (.sl 1 m (c1 y))] (boolV true) := by
  refine fn_of_wpx (O := lex) tab_ok gamXA_ok mixed Try.func23 (by kernel_rfl) rfl rfl rfl (by simp [Try.ntmps23]) (by kernel_rfl) ?_
  obtain ⟨hn, rfl, he⟩ := h
  conv => whnf
  repeat' (first
    | (refine NilG.mk fun bn hbn hbx => ?_; conv => whnf)
    | (refine Both.mk ?_ ?_ <;> conv => whnf)
    | exact trivial
    | (refine Br.mk (fun hb => ?_) (fun hb => ?_) <;> (first | (exfalso; revert hb; decide) | ((try simp only [BL] at hb) <;> (try simp only [DL] at hb) <;> conv => whnf)))
    | (refine And.intro ?_ ?_; (focus (first | exact id | exact rfl | exact trivial | (intro hg; first | exact hg | exact rfl | (simp; done) | (simp at hg ⊢; assumption)) | omega | decide | exact is2_c _ _ _ | exact is1_c _ _ | exact isS_c _ _ | exact isB_c _ _ | exact Nat.le_refl _ | assumption | exact mulLe (by decide) (by omega) | exact mulLe2 (by decide) (by omega) (by omega) | (intros; simp only [BL] at *; omega) | (intros; (try simp only [BL] at *); (try simp only [DL] at *); omega) | (intros; simp only [BL] at *; rw [wr_id (by omega) (by omega)]; omega) | (intro h1 h2; exact Bool.and_eq_true_iff.2 ⟨h1, h2⟩) | (intros; simp_all; done))); conv => whnf)
    | (refine Or.inr (And.intro rfl ?_); first | (refine congrArg intV ?_) | (refine congrArg boolV ?_) | (refine tupII ?_ ?_) | (refine tupIII ?_ ?_ ?_) | (refine tupU ?_ ?_ ?_ ?_ ?_) | exact rfl))
  · exact absurd trivial hb
  refine sem_loop tab_ok gamXA_ok mixed (by kernel_rfl) (O := lex) (fun i : Nat => ⟨[(13, intV i), (12, intV m), (0, .c (.sl 1 m (c1 x))), (1, .c (.sl 1 m (c1 y)))], []⟩) (fun i => i ≤ m) (fun i => m - i) ⟨0, [], Nat.zero_le _, ?_⟩ fun i hi => ?_
  · refine Sub.of ?_ ?_ ?_
    repeat' (first | (refine And.intro ?_ ?_) | exact trivial | exact fun _ _ _ => hsc _ _ | (exact congrArg intV (by first | with_reducible rfl | with_reducible assumption)) | exact (rfl : AV.idsLt _ _ = true) | exact (rfl : _ = AV.ren _ (.own _)) | exact (rfl : _ = AV.ren _ (.fn _ _)) | exact (rfl : _ = AV.ren _ (.gh _)) | (exact congrArg intV (by assumption)) | (refine congrArg intV ((wr_id (by omega) (by omega)).trans (by omega))) | exact rfl | (simp only [Int.toNat_natCast, Int.toNat_zero, Nat.sub_zero, Nat.zero_add]; first | exact rfl | done) | exact all0 | exact fun h => Bool.noConfusion h | exact fun _ _ _ _ => rfl | omega)
  conv => whnf
  repeat' (first
    | (refine NilG.mk fun bn hbn hbx => ?_; conv => whnf)
    | (refine Both.mk ?_ ?_ <;> conv => whnf)
    | exact trivial
    | (refine Br.mk (fun hb => ?_) (fun hb => ?_) <;> (first | (exfalso; revert hb; decide) | ((try simp only [BL] at hb) <;> (try simp only [DL] at hb) <;> conv => whnf)))
    | (refine And.intro ?_ ?_; (focus (first | exact id | exact rfl | exact trivial | (intro hg; first | exact hg | exact rfl | (simp; done) | (simp at hg ⊢; assumption)) | omega | decide | exact is2_c _ _ _ | exact is1_c _ _ | exact isS_c _ _ | exact isB_c _ _ | exact Nat.le_refl _ | assumption | exact mulLe (by decide) (by omega) | exact mulLe2 (by decide) (by omega) (by omega) | (intros; simp only [BL] at *; omega) | (intros; (try simp only [BL] at *); (try simp only [DL] at *); omega) | (intros; simp only [BL] at *; rw [wr_id (by omega) (by omega)]; omega) | (intro h1 h2; exact Bool.and_eq_true_iff.2 ⟨h1, h2⟩) | (intros; simp_all; done))); conv => whnf)
    | (refine Or.inr (And.intro rfl ?_); first | (refine congrArg intV ?_) | (refine congrArg boolV ?_) | (refine tupII ?_ ?_) | (refine tupIII ?_ ?_ ?_) | (refine tupU ?_ ?_ ?_ ?_ ?_) | exact rfl))
  · exact absurd (he i (by omega)) hb
  · refine ⟨i + 1, [], by omega, by omega, ?_⟩
    refine Sub.of ?_ ?_ ?_
    repeat' (first | (refine And.intro ?_ ?_) | exact trivial | exact fun _ _ _ => hsc _ _ | (exact congrArg intV (by first | with_reducible rfl | with_reducible assumption)) | exact (rfl : AV.idsLt _ _ = true) | exact (rfl : _ = AV.ren _ (.own _)) | exact (rfl : _ = AV.ren _ (.fn _ _)) | exact (rfl : _ = AV.ren _ (.gh _)) | (exact congrArg intV (by assumption)) | (refine congrArg intV ((wr_id (by omega) (by omega)).trans (by omega))) | exact rfl | (simp only [Int.toNat_natCast, Int.toNat_zero, Nat.sub_zero, Nat.zero_add]; first | exact rfl | done) | exact all0 | exact fun h => Bool.noConfusion h | exact fun _ _ _ _ => rfl | omega)
  · rfl

/-- how long the part of piece i is that lies between L and E -/
def ln (p : Nat → Int) (L E : Int) (i : Nat) : Int := min E (S p (i + 1)) - max L (S p i)
def cn (p : Nat → Int) (L E : Int) : Nat → Nat
  | 0 => 0
  | i + 1 => if ln p L E i > 0 then cn p L E i + 1 else cn p L E i
def cA (p : Nat → Int) (L E : Int) (n : Nat) : Nat := (ffind (fun i => decide (ln p L E i > 0)) n).getD 0
theorem ln_pos {p : Nat → Int} {L E : Int} {i : Nat} (hp : 1 ≤ p i) : ln p L E i > 0 ↔ L < E ∧ L < S p (i + 1) ∧ S p i < E := by
  unfold ln
  have : S p (i + 1) = S p i + p i := rfl
  omega
theorem cA_at {p : Nat → Int} {L E : Int} {n i : Nat} (hp : ∀ k, k < n → 1 ≤ p k) (hi : i < n) (h : ln p L E i > 0) : cA p L E n ≤ i ∧ ln p L E (cA p L E n) > 0 ∧ ∀ j, j < cA p L E n → ¬ ln p L E j > 0 := by
  have hall : ∀ m, (∀ k, k < m → ¬ ln p L E k > 0) ∨ ∃ a, a < m ∧ ln p L E a > 0 ∧ ∀ k, k < a → ¬ ln p L E k > 0 := by
    intro m
    induction m with
    | zero => exact .inl fun k hk => absurd hk (Nat.not_lt_zero k)
    | succ m ih =>
      rcases ih with h1 | ⟨a, h1, h2⟩
      · by_cases hm : ln p L E m > 0
        · exact .inr ⟨m, by omega, hm, h1⟩
        · refine .inl fun k hk => ?_
          rcases Nat.lt_succ_iff_lt_or_eq.1 hk with h3 | rfl
          · exact h1 k h3
          · exact hm
      · exact .inr ⟨a, by omega, h2⟩
  rcases hall (i + 1) with h1 | ⟨a, h1, h2, h3⟩
  · exact absurd h (h1 i (by omega))
  · have e : cA p L E n = a := by
      unfold cA
      rw [ffind_at (i := a) (fun k hk => by simp only [decide_eq_false_iff_not]; exact h3 k hk) (decide_eq_true h2) (by omega)]
      rfl
    rw [e]
    exact ⟨by omega, h2, h3⟩
theorem cn_low {p : Nat → Int} {L E : Int} : ∀ {m : Nat}, (∀ j, j < m → ¬ ln p L E j > 0) → cn p L E m = 0
  | 0, _ => rfl
  | m + 1, h => by simp only [cn]; rw [if_neg (h m (by omega)), cn_low fun j hj => h j (by omega)]
theorem cn_at {p : Nat → Int} {L E : Int} {n i : Nat} (hp : ∀ k, k < n → 1 ≤ p k) (hi : i < n) (h : ln p L E i > 0) : cA p L E n + cn p L E i = i := by
  obtain ⟨h1, h2, h3⟩ := cA_at hp hi h
  have hm0 : ∀ k, k < n → 0 ≤ p k := fun k hk => by have := hp k hk; omega
  have hmid : ∀ j, cA p L E n ≤ j → j ≤ i → ln p L E j > 0 := fun j a b => by
    have e1 := (ln_pos (hp _ (by omega))).1 h
    have e2 := (ln_pos (hp _ (by omega))).1 h2
    have m1 := S_mono (p := p) (i := cA p L E n + 1) (j := j + 1) (fun k hk => hm0 k (by omega)) (by omega)
    have m2 := S_mono (p := p) (i := j) (j := i) (fun k hk => hm0 k (by omega)) b
    exact (ln_pos (hp j (by omega))).2 ⟨e1.1, by omega, by omega⟩
  have hc : ∀ m, cA p L E n + m ≤ i → cn p L E (cA p L E n + m) = m := by
    intro m
    induction m with
    | zero => exact fun _ => cn_low h3
    | succ m ih =>
      intro hm
      have := ih (by omega)
      show cn p L E (cA p L E n + m + 1) = m + 1
      simp only [cn]
      rw [if_pos (hmid _ (by omega) (by omega)), this]
  have := hc (i - cA p L E n) (by omega)
  rw [show cA p L E n + (i - cA p L E n) = i by omega] at this
  omega

def cutK (n : Nat) (p q : Nat → Int) (L E : Int) (obs : List OB) (r : AV) : Prop := obs = [] ∧ r = .c (.sl 2 (cn p L E n) (c2 (fun j => ln p L E (cA p L E n + j)) (fun j => q (cA p L E n + j))))
theorem cxcut (lo v : Int) (n : Nat) (p q : Nat → Int) (low e : Int) (h : okCx lo v n p q) (h1 : lo ≤ low) (h2 : low ≤ e) (h3 : e ≤ lo + S p n) : Fn Try.prog 66 [cxV lo v n p q, intV low, intV e] (cutK n p q (low - lo) (e - lo)) := by
  refine fn_of_wpx (O := lex) tab_ok gamXA_ok mixed Try.func66 (by kernel_rfl) rfl rfl rfl (by simp [Try.ntmps66]) (by kernel_rfl) ?_
  have hn := h.1
  have hb1 := h.2
  have hSn := h.sS (Nat.le_refl n)
  conv => whnf
  repeat' (first
    | (refine NilG.mk fun bn hbn hbx => ?_; conv => whnf)
    | (refine Both.mk ?_ ?_ <;> conv => whnf)
    | exact trivial
    | (refine Br.mk (fun hb => ?_) (fun hb => ?_) <;> (first | (exfalso; revert hb; decide) | ((try simp only [BL] at hb) <;> (try simp only [DL] at hb) <;> conv => whnf)))
    | (refine And.intro ?_ ?_; (focus (first | exact id | exact rfl | exact trivial | (intro hg; first | exact hg | exact rfl | (simp; done) | (simp at hg ⊢; assumption)) | omega | decide | exact is2_c _ _ _ | exact is1_c _ _ | exact isS_c _ _ | exact isB_c _ _ | exact Nat.le_refl _ | assumption | exact mulLe (by decide) (by omega) | exact mulLe2 (by decide) (by omega) (by omega) | (intros; simp only [BL] at *; omega) | (intros; (try simp only [BL] at *); (try simp only [DL] at *); omega) | (intros; simp only [BL] at *; rw [wr_id (by omega) (by omega)]; omega) | (intro h1 h2; exact Bool.and_eq_true_iff.2 ⟨h1, h2⟩) | (intros; simp_all; done))); conv => whnf)
    | (refine Or.inr (And.intro rfl ?_); first | (refine congrArg intV ?_) | (refine congrArg boolV ?_) | (refine tupII ?_ ?_) | (refine tupIII ?_ ?_ ?_) | (refine tupU ?_ ?_ ?_ ?_ ?_) | exact rfl))
  refine LoopG.nil 7 47 2 rfl ?_
  refine sem_loop tab_ok gamXA_ok mixed (by kernel_rfl) (O := lex) (fun i : Nat => ⟨[(17, intV i), (16, intV n), (15, .c (.sl 2 n (c2 p q))), (1, intV low), (2, intV e), (8, intV (lo + S p i)), (7, .own 0)], [.row 47 2 (cn p (low - lo) (e - lo) i) false (c2 (fun j => ln p (low - lo) (e - lo) (cA p (low - lo) (e - lo) n + j)) (fun j => q (cA p (low - lo) (e - lo) n + j)))]⟩) (fun i => i ≤ n ∧ cn p (low - lo) (e - lo) i ≤ i) (fun i => n - i) ⟨0, [?_], ⟨Nat.zero_le _, Nat.le_refl _⟩, ?_⟩ fun i hi => ?_
  rotate_left 1
  · refine Sub.of ?_ ?_ ?_
    repeat' (first | (refine And.intro ?_ ?_) | exact trivial | exact fun _ _ _ => hsc _ _ | (exact congrArg intV (by first | with_reducible rfl | with_reducible assumption)) | exact (rfl : AV.idsLt _ _ = true) | exact (rfl : _ = AV.ren _ (.own _)) | exact (rfl : _ = AV.ren _ (.fn _ _)) | exact (rfl : _ = AV.ren _ (.gh _)) | (exact congrArg intV (by assumption)) | (refine congrArg intV ((wr_id (by omega) (by omega)).trans (by omega))) | exact rfl | (simp only [Int.toNat_natCast, Int.toNat_zero, Nat.sub_zero, Nat.zero_add]; first | exact rfl | done) | exact all0 | exact fun h => Bool.noConfusion h | exact fun _ _ _ _ => rfl | omega)
    · exact congrArg intV (by simp [S])
  have hS := h.sS hi.1
  conv => whnf
  repeat' (first
    | (refine NilG.mk fun bn hbn hbx => ?_; conv => whnf)
    | (refine Both.mk ?_ ?_ <;> conv => whnf)
    | exact trivial
    | (refine Br.mk (fun hb => ?_) (fun hb => ?_) <;> (first | (exfalso; revert hb; decide) | ((try simp only [BL] at hb) <;> (try simp only [DL] at hb) <;> conv => whnf)))
    | (refine And.intro ?_ ?_; (focus (first | exact id | exact rfl | exact trivial | (intro hg; first | exact hg | exact rfl | (simp; done) | (simp at hg ⊢; assumption)) | omega | decide | exact is2_c _ _ _ | exact is1_c _ _ | exact isS_c _ _ | exact isB_c _ _ | exact Nat.le_refl _ | assumption | exact mulLe (by decide) (by omega) | exact mulLe2 (by decide) (by omega) (by omega) | (intros; simp only [BL] at *; omega) | (intros; (try simp only [BL] at *); (try simp only [DL] at *); omega) | (intros; simp only [BL] at *; rw [wr_id (by omega) (by omega)]; omega) | (intro h1 h2; exact Bool.and_eq_true_iff.2 ⟨h1, h2⟩) | (intros; simp_all; done))); conv => whnf)
    | (refine Or.inr (And.intro rfl ?_); first | (refine congrArg intV ?_) | (refine congrArg boolV ?_) | (refine tupII ?_ ?_) | (refine tupIII ?_ ?_ ?_) | (refine tupU ?_ ?_ ?_ ?_ ?_) | exact rfl))
  · have hp := h.pos
    have hS1 := h.sS (k := i + 1) (by omega)
    have hSS : S p (i + 1) = S p i + p i := rfl
    have e1 : IntKind.i64.wrap (lo + S p i + p i) = lo + S p (i + 1) := (wr_id (by omega) (by omega)).trans (by omega)
    have e2 : IntKind.i64.wrap (min e (IntKind.i64.wrap (lo + S p i + p i)) - max low (lo + S p i)) = ln p (low - lo) (e - lo) i := by
      rw [e1]
      unfold ln
      exact (wr_id (by omega) (by omega)).trans (by omega)
    have h4 : ln p (low - lo) (e - lo) i > 0 := by rw [← e2]; exact hb
    have e3 : cn p (low - lo) (e - lo) (i + 1) = cn p (low - lo) (e - lo) i + 1 := if_pos h4
    have e4 := cn_at hp (by omega) h4
    refine ⟨i + 1, [?_], ⟨by omega, by omega⟩, by omega, ?_⟩
    rotate_left 1
    refine Sub.of ?_ ?_ ?_
    repeat' (first | (refine And.intro ?_ ?_) | exact trivial | exact fun _ _ _ => hsc _ _ | (exact congrArg intV (by first | with_reducible rfl | with_reducible assumption)) | exact (rfl : AV.idsLt _ _ = true) | exact (rfl : _ = AV.ren _ (.own _)) | exact (rfl : _ = AV.ren _ (.fn _ _)) | exact (rfl : _ = AV.ren _ (.gh _)) | (exact congrArg intV (by assumption)) | (refine congrArg intV ((wr_id (by omega) (by omega)).trans (by omega))) | exact rfl | (simp only [Int.toNat_natCast, Int.toNat_zero, Nat.sub_zero, Nat.zero_add]; first | exact rfl | done) | exact all0 | exact fun h => Bool.noConfusion h | exact fun _ _ _ _ => rfl | omega)
    intro aq haq bq hbq
    by_cases hltq : aq < cn p (low - lo) (e - lo) i
    · exact if_pos hltq
    · obtain rfl : aq = cn p (low - lo) (e - lo) i := by omega
      refine (if_neg hltq).trans ?_
      rw [Nat.sub_self]
      revert bq hbq
      refine all2 (congrArg (fun z => L.v (.int .i64 z)) (e2.trans (congrArg (ln p (low - lo) (e - lo)) e4.symm))) (congrArg (fun z => L.v (.int .i64 (q z))) e4.symm)
  · have hp := h.pos
    have hS1 := h.sS (k := i + 1) (by omega)
    have hSS : S p (i + 1) = S p i + p i := rfl
    have e1 : IntKind.i64.wrap (lo + S p i + p i) = lo + S p (i + 1) := (wr_id (by omega) (by omega)).trans (by omega)
    have e2 : IntKind.i64.wrap (min e (IntKind.i64.wrap (lo + S p i + p i)) - max low (lo + S p i)) = ln p (low - lo) (e - lo) i := by
      rw [e1]
      unfold ln
      exact (wr_id (by omega) (by omega)).trans (by omega)
    have h4 : ¬ ln p (low - lo) (e - lo) i > 0 := by rw [← e2]; exact hb
    have e3 : cn p (low - lo) (e - lo) (i + 1) = cn p (low - lo) (e - lo) i := if_neg h4
    refine ⟨i + 1, [?_], ⟨by omega, by omega⟩, by omega, ?_⟩
    rotate_left 1
    refine Sub.of ?_ ?_ ?_
    repeat' (first | (refine And.intro ?_ ?_) | exact trivial | exact fun _ _ _ => hsc _ _ | (exact congrArg intV (by first | with_reducible rfl | with_reducible assumption)) | exact (rfl : AV.idsLt _ _ = true) | exact (rfl : _ = AV.ren _ (.own _)) | exact (rfl : _ = AV.ren _ (.fn _ _)) | exact (rfl : _ = AV.ren _ (.gh _)) | (exact congrArg intV (by assumption)) | (refine congrArg intV ((wr_id (by omega) (by omega)).trans (by omega))) | exact rfl | (simp only [Int.toNat_natCast, Int.toNat_zero, Nat.sub_zero, Nat.zero_add]; first | exact rfl | done) | exact all0 | exact fun h => Bool.noConfusion h | exact fun _ _ _ _ => rfl | omega)
  · have hin : i = n := by omega
    rw [hin]
    exact .inr ⟨rfl, rfl⟩

/-- the value between two ends of a piece lies between the values there -/
theorem cW_bd {lo v : Int} {n : Nat} {p q : Nat → Int} (h : okCx lo v n p q) {m : Nat} (hm : (m : Int) ≤ S p n) : -1000000000000000 ≤ cW v n p q m ∧ cW v n p q m ≤ 1000000000000000 := by
  have hend : ∀ i, i ≤ n → -1000000000000000 ≤ cW v n p q (S p i).toNat ∧ cW v n p q (S p i).toNat ≤ 1000000000000000 := fun i hi => by
    have h1 := (h.2.2.2.2.2.2.2 i hi).2
    have h2 := ct_full (q := q) h.pos hi
    have h3 := h.sS hi
    unfold cW
    rw [Int.toNat_of_nonneg h3.1, h2]
    exact h1
  by_cases he : (m : Int) = S p n
  · have := hend n (Nat.le_refl n)
    rw [← he, Int.toNat_natCast] at this
    exact this
  · obtain ⟨i, hi, a, b⟩ := piece h.pos (m := m) (by omega) (by omega)
    have s0 := h.sS (k := i) (by omega)
    have s1 := h.sS (k := i + 1) (by omega)
    have e0 := hend i (by omega)
    have e1 := hend (i + 1) (by omega)
    have hst : ∀ k, (S p i).toNat ≤ k → k < (S p (i + 1)).toNat → cW v n p q (k + 1) = cW v n p q k + q i := fun k a b => cW_step h hi (by omega) (by omega)
    by_cases hq : 0 ≤ q i
    · have f1 := fall_rise (g := cW v n p q) (l := (S p i).toNat) (T := (S p (i + 1)).toNat) (fun k a b => by have := hst k a b; omega) m (by omega) (by omega)
      have f2 := fall_rise (g := cW v n p q) (l := m) (T := (S p (i + 1)).toNat) (fun k a' b => by have := hst k (by omega) b; omega) (S p (i + 1)).toNat (by omega) (Nat.le_refl _)
      omega
    · have f1 := rise_fall (g := cW v n p q) (l := (S p i).toNat) (T := (S p (i + 1)).toNat) (fun k a b => by have := hst k a b; omega) m (by omega) (by omega)
      have f2 := rise_fall (g := cW v n p q) (l := m) (T := (S p (i + 1)).toNat) (fun k a' b => by have := hst k (by omega) b; omega) (S p (i + 1)).toNat (by omega) (Nat.le_refl _)
      omega
end Go.Proofs.Ytkkkldhilofgmaa
