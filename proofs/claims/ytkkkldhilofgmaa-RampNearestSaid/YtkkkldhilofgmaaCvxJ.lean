/-
  convexpl.made for whatever pieces: pieces with equal slopes are joined; the values stay.
-/
import Derived.Test.YtkkkldhilofgmaaMov
import Derived.Test.YtkkkldhilofgmaaRbR
namespace Go.Proofs.Ytkkkldhilofgmaa
open Go.RowKit

/-- piece i has the slope of the one before -/
def jB (q : Nat → Int) (i : Nat) : Prop := 0 < i ∧ q (i - 1) = q i
instance (q : Nat → Int) (i : Nat) : Decidable (jB q i) := by unfold jB; infer_instance
/-- how many pieces, their lengths and slopes, when i pieces are joined -/
def jN (q : Nat → Int) : Nat → Nat
  | 0 => 0
  | i + 1 => if jB q i then jN q i else jN q i + 1
def jP (p q : Nat → Int) : Nat → Nat → Int
  | 0, _ => 0
  | i + 1, c => if jB q i then (if c = jN q i - 1 then jP p q i c + p i else jP p q i c) else if c = jN q i then p i else jP p q i c
def jQ (q : Nat → Int) : Nat → Nat → Int
  | 0, _ => 0
  | i + 1, c => if jB q i then jQ q i c else if c = jN q i then q i else jQ q i c
theorem jN_pos {q : Nat → Int} {i : Nat} (h : 0 < i) : 0 < jN q i := by
  induction i with
  | zero => exact absurd h (Nat.lt_irrefl 0)
  | succ i ih =>
    simp only [jN]
    split
    · rename_i hb; exact ih hb.1
    · omega
theorem jN_le (q : Nat → Int) : ∀ i, jN q i ≤ i
  | 0 => Nat.le_refl _
  | i + 1 => by
    have := jN_le q i
    simp only [jN]
    split <;> omega
theorem jQ_last {q : Nat → Int} : ∀ {i : Nat}, 0 < i → jQ q i (jN q i - 1) = q (i - 1)
  | 0, h => absurd h (Nat.lt_irrefl 0)
  | i + 1, _ => by
    rw [Nat.add_sub_cancel]
    by_cases hb : jB q i
    · have e : jN q (i + 1) = jN q i := if_pos hb
      rw [e]
      exact ((if_pos hb).trans (jQ_last hb.1)).trans hb.2
    · have e : jN q (i + 1) = jN q i + 1 := if_neg hb
      rw [e, Nat.add_sub_cancel]
      exact (if_neg hb).trans (if_pos rfl)
/-- lengths of joined pieces -/
theorem jP_b {p q : Nat → Int} {B : Int} : ∀ {i : Nat}, (∀ k, k < i → 0 ≤ p k ∧ p k ≤ B) → 0 ≤ B → ∀ c, 0 ≤ jP p q i c ∧ jP p q i c ≤ B * i
  | 0, _, _, c => by
    show (0 : Int) ≤ 0 ∧ (0 : Int) ≤ B * ((0 : Nat) : Int)
    simp
  | i + 1, h, hB, c => by
    have ih := jP_b (p := p) (q := q) (i := i) (fun k hk => h k (by omega)) hB c
    have hi := h i (by omega)
    have e : B * ((i + 1 : Nat) : Int) = B * (i : Int) + B := by rw [Int.natCast_add, Int.mul_add]; simp
    have h0 : 0 ≤ B * (i : Int) := Int.mul_nonneg hB (Int.natCast_nonneg _)
    rw [e]
    simp only [jP]
    split
    · split <;> omega
    · split <;> omega
theorem S_upd {f g : Nat → Int} {c : Nat} {d : Int} (h : ∀ k, g k = if k = c then f k + d else f k) : ∀ n, S g n = S f n + if c < n then d else 0
  | 0 => rfl
  | n + 1 => by
    have ih := S_upd h n
    simp only [S]
    rw [ih, h n]
    by_cases h1 : n = c
    · rw [if_pos h1, if_neg (by omega), if_pos (by omega)]; omega
    · rw [if_neg h1]
      by_cases h2 : c < n
      · rw [if_pos h2, if_pos (by omega)]; omega
      · rw [if_neg h2, if_neg (by omega)]; omega
theorem jP_above {p q : Nat → Int} : ∀ {i c : Nat}, jN q i ≤ c → 0 < c → jP p q i c = 0
  | 0, _, _, _ => rfl
  | i + 1, c, h, hc => by
    simp only [jN] at h
    simp only [jP]
    by_cases hb : jB q i
    · rw [if_pos hb] at h ⊢
      have := jN_pos (q := q) hb.1
      rw [if_neg (by omega)]
      exact jP_above h hc
    · rw [if_neg hb] at h ⊢
      rw [if_neg (by omega)]
      exact jP_above (by omega) hc
/-- together they are as long -/
theorem jP_sum (p q : Nat → Int) : ∀ i, S (jP p q i) (jN q i) = S p i
  | 0 => rfl
  | i + 1 => by
    have ih := jP_sum p q i
    by_cases hb : jB q i
    · have hp := jN_pos (q := q) hb.1
      have e : jN q (i + 1) = jN q i := if_pos hb
      rw [e, S_upd (f := jP p q i) (c := jN q i - 1) (d := p i) (fun k => by simp only [jP]; rw [if_pos hb]), if_pos (by omega), ih]
      rfl
    · have e : jN q (i + 1) = jN q i + 1 := if_neg hb
      rw [e]
      have h1 : S (jP p q (i + 1)) (jN q i) = S (jP p q i) (jN q i) := S_congr fun k hk => by
        simp only [jP]
        rw [if_neg hb, if_neg (by omega)]
      show S (jP p q (i + 1)) (jN q i) + jP p q (i + 1) (jN q i) = S p i + p i
      rw [h1, ih]
      simp only [jP]
      rw [if_neg hb, if_pos trivial]
/-- the joined pieces have the values of the pieces -/
theorem j_val {p q : Nat → Int} (x : Int) : ∀ {i : Nat}, (∀ k, k < i → 0 ≤ p k) → S (ct (jP p q i) (jQ q i) x) (jN q i) = S (ct p q x) i
  | 0, _ => rfl
  | i + 1, h => by
    have ih := j_val (q := q) x (i := i) fun k hk => h k (by omega)
    have hs := jP_sum p q i
    have hpi := h i (by omega)
    by_cases hb : jB q i
    · have hp := jN_pos (q := q) hb.1
      have e : jN q (i + 1) = jN q i := if_pos hb
      have hl := jQ_last (q := q) hb.1
      have eP : ∀ k, jP p q (i + 1) k = if k = jN q i - 1 then jP p q i k + p i else jP p q i k := fun k => if_pos hb
      have eQ : ∀ k, jQ q (i + 1) k = jQ q i k := fun k => if_pos hb
      have hnn : 0 ≤ jP p q i (jN q i - 1) := (jP_b (p := p) (q := q) (i := i) (B := S p i) (fun k hk => ⟨h k (by omega), by
        have h1 := S_mono (p := p) (i := k + 1) (j := i) (fun z hz => h z (by omega)) hk
        have h2 := S_mono (p := p) (i := 0) (j := k) (fun z hz => h z (by omega)) (Nat.zero_le _)
        have h3 : S p (k + 1) = S p k + p k := rfl
        have h4 : S p 0 = 0 := rfl
        omega⟩) (by
        have := S_mono (p := p) (i := 0) (j := i) (fun z hz => h z (by omega)) (Nat.zero_le _)
        exact this) (jN q i - 1)).1
      rw [e]
      obtain ⟨m, hm⟩ : ∃ m, jN q i = m + 1 := ⟨jN q i - 1, by omega⟩
      rw [hm] at ih hs hl eP hnn ⊢
      rw [Nat.add_sub_cancel] at hl hnn
      simp only [Nat.add_sub_cancel] at eP
      have hS : ∀ c, c ≤ m → S (jP p q (i + 1)) c = S (jP p q i) c := fun c hc => S_congr fun k hk => by rw [eP, if_neg (by omega)]
      have h1 : S (ct (jP p q (i + 1)) (jQ q (i + 1)) x) m = S (ct (jP p q i) (jQ q i) x) m := S_congr fun k hk => by
        unfold ct
        rw [hS k (by omega), eP, if_neg (by omega), eQ]
      have hs : S (jP p q i) m + jP p q i m = S p i := hs
      have ih : S (ct (jP p q i) (jQ q i) x) m + ct (jP p q i) (jQ q i) x m = S (ct p q x) i := ih
      show S (ct (jP p q (i + 1)) (jQ q (i + 1)) x) m + ct (jP p q (i + 1)) (jQ q (i + 1)) x m = S (ct p q x) i + ct p q x i
      rw [h1, ← ih, Int.add_assoc]
      congr 1
      unfold ct
      rw [hS m (Nat.le_refl _), eP, if_pos rfl, eQ, hl, hb.2, ← hs, ← Int.add_mul]
      congr 1
      omega
    · have e : jN q (i + 1) = jN q i + 1 := if_neg hb
      have eP : ∀ k, jP p q (i + 1) k = if k = jN q i then p i else jP p q i k := fun k => if_neg hb
      have eQ : ∀ k, jQ q (i + 1) k = if k = jN q i then q i else jQ q i k := fun k => if_neg hb
      rw [e]
      have hS : ∀ c, c ≤ jN q i → S (jP p q (i + 1)) c = S (jP p q i) c := fun c hc => S_congr fun k hk => by rw [eP, if_neg (by omega)]
      have h1 : S (ct (jP p q (i + 1)) (jQ q (i + 1)) x) (jN q i) = S (ct (jP p q i) (jQ q i) x) (jN q i) := S_congr fun k hk => by
        unfold ct
        rw [hS k (by omega), eP, if_neg (by omega), eQ, if_neg (by omega)]
      show S (ct (jP p q (i + 1)) (jQ q (i + 1)) x) (jN q i) + ct (jP p q (i + 1)) (jQ q (i + 1)) x (jN q i) = S (ct p q x) i + ct p q x i
      rw [h1, ih]
      congr 1
      unfold ct
      rw [hS _ (Nat.le_refl _), eP, if_pos rfl, eQ, if_pos rfl, hs]
/-- what made returns -/
def madeJ (lo v : Int) (k : Nat) (p q : Nat → Int) (obs : List OB) (r : AV) : Prop :=
  obs = [] ∧ ((cxE lo v (jN q k) (jP p q k) (jQ q k) = 0 ∧ r = .tup [cxV lo v (jN q k) (jP p q k) (jQ q k), intV 0]) ∨ (cxE lo v (jN q k) (jP p q k) (jQ q k) ≠ 0 ∧ r = .tup [nulV, intV 2]))
theorem cxmadeJ (lo v : Int) (k : Nat) (p q : Nat → Int) (hk : k ≤ 1000) (hp : ∀ i, i < k → 0 ≤ p i ∧ p i ≤ 2000000) : Fn Try.prog 67 [intV lo, intV v, .c (.sl 2 k (c2 p q))] (madeJ lo v k p q) := by
  refine fn_of_wpx (O := lex) tab_ok gamXA_ok mixed Try.func67 (by kernel_rfl) rfl rfl rfl (by simp [Try.ntmps67]) (by kernel_rfl) ?_
  conv => whnf
  repeat' (first
    | (refine NilG.mk fun bn hbn hbx => ?_; conv => whnf)
    | (refine Both.mk ?_ ?_ <;> conv => whnf)
    | exact trivial
    | (refine Br.mk (fun hb => ?_) (fun hb => ?_) <;> (first | (exfalso; revert hb; decide) | ((try simp only [BL] at hb) <;> (try simp only [DL] at hb) <;> conv => whnf)))
    | (refine And.intro ?_ ?_; (focus (first | exact id | exact rfl | exact trivial | (intro hg; first | exact hg | exact rfl | (simp; done) | (simp at hg ⊢; assumption)) | omega | decide | exact is2_c _ _ _ | exact is1_c _ _ | exact isS_c _ _ | exact isB_c _ _ | exact Nat.le_refl _ | assumption | exact mulLe (by decide) (by omega) | exact mulLe2 (by decide) (by omega) (by omega) | (intros; simp only [BL] at *; omega) | (intros; (try simp only [BL] at *); (try simp only [DL] at *); omega) | (intros; simp only [BL] at *; rw [wr_id (by omega) (by omega)]; omega) | (intro h1 h2; exact Bool.and_eq_true_iff.2 ⟨h1, h2⟩) | (intros; simp_all; done))); conv => whnf)
    | (refine Or.inr (And.intro rfl ?_); first | (refine congrArg intV ?_) | (refine congrArg boolV ?_) | (refine tupII ?_ ?_) | (refine tupIII ?_ ?_ ?_) | (refine tupU ?_ ?_ ?_ ?_ ?_) | exact rfl))
  refine LoopG.nilC 1 2 47 2 rfl rfl ?_
  refine sem_loop tab_ok gamXA_ok mixed (by kernel_rfl) (O := lex) (fun i : Nat => ⟨[(6, .lp 0 0), (8, .lp 1 0), (15, .c (.sl 2 k (c2 p q))), (16, intV k), (17, intV i)], [.box [intV 0, intV 0, .c (.v (.slice none 0 0))], .box [intV lo, intV v, .own 2], .row 47 2 (jN q i) false (c2 (jP p q i) (jQ q i))]⟩) (fun i => i ≤ k) (fun i => k - i) ⟨0, [?_, ?_, ?_], Nat.zero_le _, ?_⟩ fun i hi => ?_
  rotate_left 3
  · refine Sub.of ?_ ?_ ?_
    repeat' (first | (refine And.intro ?_ ?_) | exact trivial | exact fun _ _ _ => hsc _ _ | (exact congrArg intV (by first | with_reducible rfl | with_reducible assumption)) | exact (rfl : AV.idsLt _ _ = true) | exact (rfl : _ = AV.ren _ (.own _)) | exact (rfl : _ = AV.ren _ (.fn _ _)) | exact (rfl : _ = AV.ren _ (.gh _)) | (exact congrArg intV (by assumption)) | (refine congrArg intV ((wr_id (by omega) (by omega)).trans (by omega))) | exact rfl | (simp only [Int.toNat_natCast, Int.toNat_zero, Nat.sub_zero, Nat.zero_add]; first | exact rfl | done) | exact all0 | exact fun h => Bool.noConfusion h | exact fun _ _ _ _ => rfl | omega)
  have hji := jN_le q i
  have ei : 0 < jN q i → (IntKind.i64.wrap ((jN q i : Int) - 1)).toNat = jN q i - 1 := fun h0 => by rw [wr_id (by omega) (by omega)]; omega
  conv => whnf
  repeat' (first
    | (refine NilG.mk fun bn hbn hbx => ?_; conv => whnf)
    | (refine Both.mk ?_ ?_ <;> conv => whnf)
    | exact trivial
    | (refine Br.mk (fun hb => ?_) (fun hb => ?_) <;> (first | (exfalso; revert hb; decide) | ((try simp only [BL] at hb) <;> (try simp only [DL] at hb) <;> conv => whnf)))
    | (refine And.intro ?_ ?_; (focus (first | exact id | exact rfl | exact trivial | (intro hg; first | exact hg | exact rfl | (simp; done) | (simp at hg ⊢; assumption)) | omega | decide | exact is2_c _ _ _ | exact is1_c _ _ | exact isS_c _ _ | exact isB_c _ _ | exact Nat.le_refl _ | assumption | exact mulLe (by decide) (by omega) | exact mulLe2 (by decide) (by omega) (by omega) | (intros; simp only [BL] at *; omega) | (intros; (try simp only [BL] at *); (try simp only [DL] at *); omega) | (intros; simp only [BL] at *; rw [wr_id (by omega) (by omega)]; omega) | (intro h1 h2; exact Bool.and_eq_true_iff.2 ⟨h1, h2⟩) | first | exact fun h => ⟨rfl, by have h0 : (jN q i : Int) > 0 := of_decide_eq_true h; rw [ei (by omega)]; omega, by decide⟩ | exact ⟨is2_c _ _ _, show jN q i ≤ maxLen by unfold maxLen; omega⟩ | (intros; simp_all; done))); conv => whnf)
    | (refine Or.inr (And.intro rfl ?_); first | (refine congrArg intV ?_) | (refine congrArg boolV ?_) | (refine tupII ?_ ?_) | (refine tupIII ?_ ?_ ?_) | (refine tupU ?_ ?_ ?_ ?_ ?_) | exact rfl))
  · have hik : i < k := by omega
    have hjp : 0 < jN q i := by have := hb.1; omega
    have hi0 : 0 < i := by
      rcases Nat.eq_zero_or_pos i with h | h
      · rw [h] at hjp
        exact absurd hjp (Nat.lt_irrefl 0)
      · exact h
    have ej : IntKind.i64.wrap ((jN q i : Int) - 1) = ((jN q i - 1 : Nat) : Int) := (wr_id (by omega) (by omega)).trans (by omega)
    have hB : jB q i := ⟨hi0, by
      have h2 := hb.2
      rw [ei hjp, jQ_last hi0] at h2
      exact h2⟩
    have hjb := jP_b (p := p) (q := q) (i := i) (B := 2000000) (fun z hz => hp z (by omega)) (by decide) (jN q i - 1)
    have hpi := hp i hik
    have eN : jN q i = jN q (i + 1) := (if_pos hB).symm
    rw [ej]
    refine And.intro (by omega) ?_
    conv => whnf
    repeat' (first
      | (refine NilG.mk fun bn hbn hbx => ?_; conv => whnf)
      | (refine Both.mk ?_ ?_ <;> conv => whnf)
      | exact trivial
      | (refine Br.mk (fun hb => ?_) (fun hb => ?_) <;> (first | (exfalso; revert hb; decide) | ((try simp only [BL] at hb) <;> (try simp only [DL] at hb) <;> conv => whnf)))
      | (refine And.intro ?_ ?_; (focus (first | exact id | exact rfl | exact trivial | (intro hg; first | exact hg | exact rfl | (simp; done) | (simp at hg ⊢; assumption)) | omega | decide | exact is2_c _ _ _ | exact is1_c _ _ | exact isS_c _ _ | exact isB_c _ _ | exact Nat.le_refl _ | assumption | exact mulLe (by decide) (by omega) | exact mulLe2 (by decide) (by omega) (by omega) | (intros; simp only [BL] at *; omega) | (intros; (try simp only [BL] at *); (try simp only [DL] at *); omega) | (intros; simp only [BL] at *; rw [wr_id (by omega) (by omega)]; omega) | (intro h1 h2; exact Bool.and_eq_true_iff.2 ⟨h1, h2⟩) | (refine ⟨rfl, ?_, by decide⟩; rw [Int.toNat_natCast]; omega) | (intros; simp_all; done))); conv => whnf)
      | (refine Or.inr (And.intro rfl ?_); first | (refine congrArg intV ?_) | (refine congrArg boolV ?_) | (refine tupII ?_ ?_) | (refine tupIII ?_ ?_ ?_) | (refine tupU ?_ ?_ ?_ ?_ ?_) | exact rfl))
    refine ⟨i + 1, [?_, ?_, ?_], by omega, by omega, ?_⟩
    rotate_left 3
    refine Sub.of ?_ ?_ ?_
    repeat' (first | (refine And.intro ?_ ?_) | exact trivial | exact fun _ _ _ => hsc _ _ | (exact congrArg intV (by first | with_reducible rfl | with_reducible assumption)) | exact (rfl : AV.idsLt _ _ = true) | exact (rfl : _ = AV.ren _ (.own _)) | exact (rfl : _ = AV.ren _ (.fn _ _)) | exact (rfl : _ = AV.ren _ (.gh _)) | (exact congrArg intV (by assumption)) | (refine congrArg intV ((wr_id (by omega) (by omega)).trans (by omega))) | exact rfl | (simp only [Int.toNat_natCast, Int.toNat_zero, Nat.sub_zero, Nat.zero_add]; first | exact rfl | done) | exact all0 | exact fun h => Bool.noConfusion h | exact fun _ _ _ _ => rfl | omega)
    have eP : ∀ c, jP p q (i + 1) c = if c = jN q i - 1 then jP p q i c + p i else jP p q i c := fun c => if_pos hB
    have eQ : ∀ c, jQ q (i + 1) c = jQ q i c := fun c => if_pos hB
    have ew : IntKind.i64.wrap (jP p q i (jN q i - 1) + p i) = jP p q i (jN q i - 1) + p i := wr_id (by omega) (by omega)
    intro a ha b hb9
    match b, hb9 with
    | 0, _ =>
      show (if a = jN q i - 1 then iL (IntKind.i64.wrap (jP p q i (jN q i - 1) + p i)) else iL (jP p q i a)) = iL (jP p q (i + 1) a)
      rw [eP a, ew]
      by_cases h : a = jN q i - 1
      · rw [if_pos h, if_pos h, h]
      · rw [if_neg h, if_neg h]
    | 1, _ =>
      show (if a = jN q i - 1 then iL (jQ q i a) else iL (jQ q i a)) = iL (jQ q (i + 1) a)
      rw [eQ a]
      split <;> rfl
  · have hik : i < k := by omega
    have hB : ¬ jB q i := fun hB => by
      rcases hb with h | h
      · have := jN_pos (q := q) hB.1
        omega
      · rw [ei (jN_pos hB.1), jQ_last hB.1] at h
        exact h hB.2
    have eN : jN q i + 1 = jN q (i + 1) := (if_neg hB).symm
    refine ⟨i + 1, [?_, ?_, ?_], by omega, by omega, ?_⟩
    rotate_left 3
    refine Sub.of ?_ ?_ ?_
    repeat' (first | (refine And.intro ?_ ?_) | exact trivial | exact fun _ _ _ => hsc _ _ | (exact congrArg intV (by first | with_reducible rfl | with_reducible assumption)) | exact (rfl : AV.idsLt _ _ = true) | exact (rfl : _ = AV.ren _ (.own _)) | exact (rfl : _ = AV.ren _ (.fn _ _)) | exact (rfl : _ = AV.ren _ (.gh _)) | (exact congrArg intV (by assumption)) | (refine congrArg intV ((wr_id (by omega) (by omega)).trans (by omega))) | exact rfl | (simp only [Int.toNat_natCast, Int.toNat_zero, Nat.sub_zero, Nat.zero_add]; first | exact rfl | done) | exact all0 | exact fun h => Bool.noConfusion h | exact fun _ _ _ _ => rfl | omega)
    have eP : ∀ c, jP p q (i + 1) c = if c = jN q i then p i else jP p q i c := fun c => if_neg hB
    have eQ : ∀ c, jQ q (i + 1) c = if c = jN q i then q i else jQ q i c := fun c => if_neg hB
    intro a ha b hb9
    have hb9 : b < 2 := hb9
    by_cases h : a < jN q i
    · refine (if_pos h).trans ?_
      match b, hb9 with
      | 0, _ =>
        show iL (jP p q i a) = iL (jP p q (i + 1) a)
        rw [eP a, if_neg (by omega)]
      | 1, _ =>
        show iL (jQ q i a) = iL (jQ q (i + 1) a)
        rw [eQ a, if_neg (by omega)]
    · obtain rfl : a = jN q i := by omega
      refine (if_neg h).trans ?_
      rw [Nat.sub_self]
      match b, hb9 with
      | 0, _ =>
        show iL (p i) = iL (jP p q (i + 1) (jN q i))
        rw [eP, if_pos rfl]
      | 1, _ =>
        show iL (q i) = iL (jQ q (i + 1) (jN q i))
        rw [eQ, if_pos rfl]
  · have h0 : ¬ cxE lo v (jN q i) (jP p q i) (jQ q i) = 0 := hb
    obtain rfl : i = k := by omega
    exact .inr ⟨rfl, .inr ⟨h0, rfl⟩⟩
  · have h0 : cxE lo v (jN q i) (jP p q i) (jQ q i) = 0 := hb
    obtain rfl : i = k := by omega
    exact .inr ⟨rfl, .inl ⟨h0, rfl⟩⟩
end Go.Proofs.Ytkkkldhilofgmaa
