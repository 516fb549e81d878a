/-
  Auctions: the prices that fit lie between two prices of orders; FitsPrice.
-/
import Derived.Test.YtdakikgebfphmaaAucE
namespace Go.Proofs.Ytdakikgebfphmaa
open Go.RowKit

theorem amC_le {R : Nat → Prop} [DecidablePred R] {f : Nat → Int} {n k : Nat} (hk : k < n) (hR : R k) : 0 ≤ amC R f n ∧ f (amC R f n).toNat ≤ f k := by
  induction n with
  | zero => exact absurd hk (Nat.not_lt_zero _)
  | succ i ih =>
    simp only [amC]
    have hb := amC_b R f i
    by_cases hki : k = i
    · subst hki
      by_cases hc : R k ∧ (amC R f k < 0 ∨ f k < f (amC R f k).toNat)
      · rw [if_pos hc, Int.toNat_natCast]
        exact ⟨by omega, Int.le_refl _⟩
      · rw [if_neg hc]
        have h1 : ¬ (amC R f k < 0 ∨ f k < f (amC R f k).toNat) := fun hh => hc ⟨hR, hh⟩
        exact ⟨by omega, by omega⟩
    · obtain ⟨i1, i2⟩ := ih (by omega)
      split
      · rename_i hc
        rw [Int.toNat_natCast]
        exact ⟨by omega, by omega⟩
      · exact ⟨i1, i2⟩
section
variable {a : Nat → AuO} {n : Nat} {π1 π2 : Nat → Nat}
theorem aKy_mono (h : Auc a n π1 π2) {b : Bool} {π : Nat → Nat} (hs : Sorted (bSz (aM a b) (aQ a b) n) π (oN (aM a b) n)) {t t' : Int} (ht : t ≤ t') (hl : aHd a b n π t' < oN (aM a b) n) : aKy a b n π t ≤ aKy a b n π t' :=
  hs.le (hd_mono (aBlks h.ok hs) ht) hl
/-- who has something has been a head -/
theorem aWas (h : Auc a n π1 π2) {k : Nat} : ∀ t : Nat, (∀ u : Nat, u < t → aFit a n π1 π2 u) → 0 < aFl a n π1 π2 t k → ∃ u : Nat, u < t ∧ (own (aM a true) n (π1 (aHd a true n π1 u)) = k ∨ own (aM a false) n (π2 (aHd a false n π2 u)) = k)
  | 0, _, hp => by
    have := aFl_zero h k
    rw [show ((0 : Nat) : Int) = 0 from rfl] at hp
    omega
  | t + 1, hall, hp => by
    by_cases hpt : 0 < aFl a n π1 π2 t k
    · obtain ⟨u, hu, h1⟩ := aWas h t (fun u hu => hall u (by omega)) hpt
      exact ⟨u, by omega, h1⟩
    · refine ⟨t, by omega, ?_⟩
      have hst := aFl_step h (Int.natCast_nonneg t) (hall t (by omega)) k
      rw [Int.natCast_succ, hst] at hp
      by_cases h1 : own (aM a true) n (π1 (aHd a true n π1 t)) = k
      · exact .inl h1
      · by_cases h2 : own (aM a false) n (π2 (aHd a false n π2 t)) = k
        · exact .inr h2
        · rw [if_neg h1, if_neg h2] at hp
          omega
/-- who lacks something stands behind the head -/
theorem aLeft (h : Auc a n π1 π2) {t : Nat} (hl1 : (t : Int) ≤ aAll a true n) (hl2 : (t : Int) ≤ aAll a false n) {b : Bool} {π : Nat → Nat} (hs : Sorted (bSz (aM a b) (aQ a b) n) π (oN (aM a b) n)) (hx : ∀ k, k < n → (a k).bu = b → aFl a n π1 π2 t k = aX a b n π t k) (hl : (t : Int) ≤ aAll a b n)
    {k : Nat} (hk : k < n) (hb : (a k).bu = b) (hlt : aFl a n π1 π2 t k < (a k).pw) : aHd a b n π t < oN (aM a b) n ∧ aKy a b n π t ≤ aQ a b k 0 := by
  have hA := aBest h hs (Int.natCast_nonneg t) hl (x := aFl a n π1 π2 t) hx
  obtain ⟨c1, c2⟩ := amC_le (R := aRoom a b (aFl a n π1 π2 t)) (f := fun k => aQ a b k 0) hk ⟨hb, by omega⟩
  rw [hA] at c1 c2
  split at c1
  · rename_i hh
    rw [if_pos hh, Int.toNat_natCast] at c2
    exact ⟨hh, c2⟩
  · omega
/-- the prices that fit lie between an order's price and another's -/
theorem aFits (h : Auc a n π1 π2) {t : Nat} (hall : ∀ u : Nat, u < t → aFit a n π1 π2 u) (hnf : ¬ aFit a n π1 π2 t) (ht : 0 < t) {k k' : Nat} (hk : k < n) (hk' : k' < n) (h1 : aLw a (aFl a n π1 π2 t) k) (h2 : aUp a (aFl a n π1 π2 t) k') : (a k).pr ≤ (a k').pr := by
  obtain ⟨hl1, hl2⟩ := aFit_le h hall
  have hx := fun k (hk : k < n) => aFl_b h (Int.natCast_nonneg t) hl1 hl2 hk
  have f1 := fun k (hk : k < n) (hb : (a k).bu = true) => aLeft h hl1 hl2 h.s1 (fun k hk hb => (hx k hk).2.2.1 hb) hl1 hk hb
  have f2 := fun k (hk : k < n) (hb : (a k).bu = false) => aLeft h hl1 hl2 h.s2 (fun k hk hb => (hx k hk).2.2.2 hb) hl2 hk hb
  have g : ∀ k, k < n → 0 < aFl a n π1 π2 t k → ((a k).bu = true → -(a k).pr ≤ aKy a true n π1 ((t - 1 : Nat) : Int)) ∧ ((a k).bu = false → (a k).pr ≤ aKy a false n π2 ((t - 1 : Nat) : Int)) := fun k hk hp => by
    obtain ⟨u, hu, h3⟩ := aWas h t hall hp
    have hfu := hall u hu
    have hft := hall (t - 1) (by omega)
    have m1 := aKy_mono h h.s1 (t := u) (t' := ((t - 1 : Nat) : Int)) (by omega) hft.1
    have m2 := aKy_mono h h.s2 (t := u) (t' := ((t - 1 : Nat) : Int)) (by omega) hft.2.1
    have k1 : aKy a true n π1 u = -(a (own (aM a true) n (π1 (aHd a true n π1 u)))).pr := rfl
    have k2 : aKy a false n π2 u = (a (own (aM a false) n (π2 (aHd a false n π2 u)))).pr := rfl
    rcases h3 with h3 | h3
    · have o := (aOwn h.s1 hfu.1).2
      rw [h3] at o k1
      exact ⟨fun _ => by omega, fun hh => by rw [o] at hh; cases hh⟩
    · have o := (aOwn h.s2 hfu.2.1).2
      rw [h3] at o k2
      exact ⟨fun hh => (by rw [o] at hh; cases hh), fun _ => by omega⟩
  have hft := hall (t - 1) (by omega)
  have hf3 := hft.2.2
  rcases h1 with ⟨b1, h1⟩ | ⟨b1, h1⟩ <;> rcases h2 with ⟨b2, h2⟩ | ⟨b2, h2⟩
  · have e1 := (g k hk h1).2 b1
    have e2 := (g k' hk' h2).1 b2
    omega
  · have e1 := (g k hk h1).2 b1
    obtain ⟨e2, e3⟩ := f2 k' hk' b2 h2
    have m := aKy_mono h h.s2 (t := ((t - 1 : Nat) : Int)) (t' := t) (by omega) e2
    have e4 : aQ a false k' 0 = (a k').pr := rfl
    omega
  · obtain ⟨e2, e3⟩ := f1 k hk b1 h1
    have e1 := (g k' hk' h2).1 b2
    have m := aKy_mono h h.s1 (t := ((t - 1 : Nat) : Int)) (t' := t) (by omega) e2
    have e4 : aQ a true k 0 = -(a k).pr := rfl
    omega
  · obtain ⟨e2, e3⟩ := f1 k hk b1 h1
    obtain ⟨e5, e6⟩ := f2 k' hk' b2 h2
    have e4 : aQ a true k 0 = -(a k).pr := rfl
    have e7 : aQ a false k' 0 = (a k').pr := rfl
    by_cases hh : aKy a true n π1 t + aKy a false n π2 t ≤ 0
    · exact absurd ⟨e2, e5, hh⟩ hnf
    · omega
theorem loA_le (a : Nat → AuO) (x : Nat → Int) {k : Nat} : ∀ {n : Nat}, k < n → aLw a x k → (a k).pr ≤ loA a x n
  | 0, h, _ => absurd h (Nat.not_lt_zero _)
  | n + 1, h, hk => by
    simp only [loA]
    by_cases e : k = n
    · subst e; rw [if_pos hk]; omega
    · have := loA_le a x (n := n) (by omega) hk
      split <;> omega
theorem hiA_le (a : Nat → AuO) (x : Nat → Int) {k : Nat} : ∀ {n : Nat}, k < n → aUp a x k → hiA a x n ≤ (a k).pr
  | 0, h, _ => absurd h (Nat.not_lt_zero _)
  | n + 1, h, hk => by
    simp only [hiA]
    by_cases e : k = n
    · subst e; rw [if_pos hk]; omega
    · have := hiA_le a x (n := n) (by omega) hk
      split <;> omega
theorem loA_at (a : Nat → AuO) (x : Nat → Int) : ∀ {n : Nat}, loA a x n ≠ -1099511627776 → ∃ k, k < n ∧ aLw a x k ∧ loA a x n = (a k).pr
  | 0, h => absurd rfl h
  | n + 1, h => by
    simp only [loA] at h ⊢
    by_cases hc : aLw a x n
    · rw [if_pos hc] at h ⊢
      by_cases hm : loA a x n ≤ (a n).pr
      · exact ⟨n, by omega, hc, by omega⟩
      · obtain ⟨k, h1, h2, h3⟩ := loA_at a x (n := n) (by omega)
        exact ⟨k, by omega, h2, by omega⟩
    · rw [if_neg hc] at h ⊢
      obtain ⟨k, h1, h2, h3⟩ := loA_at a x (n := n) h
      exact ⟨k, by omega, h2, h3⟩
theorem hiA_at (a : Nat → AuO) (x : Nat → Int) : ∀ {n : Nat}, hiA a x n ≠ 1099511627776 → ∃ k, k < n ∧ aUp a x k ∧ hiA a x n = (a k).pr
  | 0, h => absurd rfl h
  | n + 1, h => by
    simp only [hiA] at h ⊢
    by_cases hc : aUp a x n
    · rw [if_pos hc] at h ⊢
      by_cases hm : (a n).pr ≤ hiA a x n
      · exact ⟨n, by omega, hc, by omega⟩
      · obtain ⟨k, h1, h2, h3⟩ := hiA_at a x (n := n) (by omega)
        exact ⟨k, by omega, h2, by omega⟩
    · rw [if_neg hc] at h ⊢
      obtain ⟨k, h1, h2, h3⟩ := hiA_at a x (n := n) h
      exact ⟨k, by omega, h2, h3⟩
theorem lo_mono (a : Nat → AuO) (x : Nat → Int) {i : Nat} : ∀ {j : Nat}, i ≤ j → loA a x i ≤ loA a x j ∧ hiA a x j ≤ hiA a x i
  | 0, h => by obtain rfl : i = 0 := by omega
               exact ⟨Int.le_refl _, Int.le_refl _⟩
  | j + 1, h => by
    by_cases e : i = j + 1
    · subst e; exact ⟨Int.le_refl _, Int.le_refl _⟩
    · have := lo_mono a x (j := j) (i := i) (by omega)
      simp only [loA, hiA]
      split <;> split <;> omega
/-- both ends are prices of orders, and they fit -/
theorem aEnds (h : Auc a n π1 π2) {t : Nat} (hall : ∀ u : Nat, u < t → aFit a n π1 π2 u) (hnf : ¬ aFit a n π1 π2 t) (ht : 0 < t) :
    ∃ k k', k < n ∧ k' < n ∧ loA a (aFl a n π1 π2 t) n = (a k).pr ∧ hiA a (aFl a n π1 π2 t) n = (a k').pr ∧ (a k).pr ≤ (a k').pr := by
  obtain ⟨hl1, hl2⟩ := aFit_le h hall
  have hft := hall (t - 1) (by omega)
  obtain ⟨o1, o2⟩ := aOwn h.s1 hft.1
  obtain ⟨o3, o4⟩ := aOwn h.s2 hft.2.1
  have hx := fun k (hk : k < n) => aFl_b h (t := ((t - 1 : Nat) : Int)) (by omega) (by omega) (by omega) hk
  have hst := fun k => aFl_step h (t := ((t - 1 : Nat) : Int)) (by omega) hft k
  have et : ((t - 1 : Nat) : Int) + 1 = (t : Int) := by omega
  rw [et] at hst
  have p1 : aUp a (aFl a n π1 π2 t) (own (aM a true) n (π1 (aHd a true n π1 ((t - 1 : Nat) : Int)))) := .inl ⟨o2, by
    have := hst (own (aM a true) n (π1 (aHd a true n π1 ((t - 1 : Nat) : Int))))
    rw [if_pos rfl] at this
    have := (hx _ o1).1
    split at * <;> omega⟩
  have p2 : aLw a (aFl a n π1 π2 t) (own (aM a false) n (π2 (aHd a false n π2 ((t - 1 : Nat) : Int)))) := .inl ⟨o4, by
    have := hst (own (aM a false) n (π2 (aHd a false n π2 ((t - 1 : Nat) : Int))))
    rw [if_pos rfl] at this
    have := (hx _ o3).1
    split at * <;> omega⟩
  have q1 := loA_le a (aFl a n π1 π2 t) o3 p2
  have q2 := hiA_le a (aFl a n π1 π2 t) o1 p1
  have r1 := h.ok _ o1
  have r2 := h.ok _ o3
  obtain ⟨k, k1, k2, k3⟩ := loA_at a (aFl a n π1 π2 t) (n := n) (by omega)
  obtain ⟨k', k4, k5, k6⟩ := hiA_at a (aFl a n π1 π2 t) (n := n) (by omega)
  exact ⟨k, k', k1, k4, k3, k6, aFits h hall hnf ht k1 k4 k2 k5⟩
end
/-- the least and the greatest price of an order between lo and hi -/
def lwF (a : Nat → AuO) (lo hi : Int) : Nat → Int
  | 0 => 1152921504606846976
  | i + 1 => if lo ≤ (a i).pr ∧ (a i).pr ≤ hi then min (lwF a lo hi i) (a i).pr else lwF a lo hi i
def hgF (a : Nat → AuO) (lo hi : Int) : Nat → Int
  | 0 => -1152921504606846976
  | i + 1 => if lo ≤ (a i).pr ∧ (a i).pr ≤ hi then max (hgF a lo hi i) (a i).pr else hgF a lo hi i
theorem lwF_b {a : Nat → AuO} {lo hi : Int} {n : Nat} (hp : ∀ k, k < n → -1000000 ≤ (a k).pr ∧ (a k).pr ≤ 1000000) (h1 : -1000000 ≤ lo ∧ lo ≤ 1000000) (h2 : -1000000 ≤ hi ∧ hi ≤ 1000000) : ∀ i, i ≤ n → lo ≤ lwF a lo hi i ∧ lwF a lo hi i ≤ 1152921504606846976 ∧ hgF a lo hi i ≤ hi ∧ -1152921504606846976 ≤ hgF a lo hi i
  | 0, _ => by simp only [lwF, hgF]; omega
  | i + 1, hi' => by
    have ih := lwF_b hp h1 h2 i (by omega)
    have := hp i (by omega)
    simp only [lwF, hgF]
    split <;> omega
theorem lwF_eq {a : Nat → AuO} {lo hi : Int} {n k k' : Nat} (hp : ∀ k, k < n → -1000000 ≤ (a k).pr ∧ (a k).pr ≤ 1000000) (hk : k < n) (hk' : k' < n) (h1 : lo = (a k).pr) (h2 : hi = (a k').pr) (hle : lo ≤ hi) : lwF a lo hi n = lo ∧ hgF a lo hi n = hi := by
  have g1 := hp k hk
  have g2 := hp k' hk'
  have key : ∀ i, i ≤ n → (k < i → lwF a lo hi i ≤ lo) ∧ (k' < i → hi ≤ hgF a lo hi i) := fun i => by
    induction i with
    | zero => intro _; exact ⟨fun h => absurd h (Nat.not_lt_zero _), fun h => absurd h (Nat.not_lt_zero _)⟩
    | succ i ih =>
      intro hi'
      obtain ⟨i1, i2⟩ := ih (by omega)
      simp only [lwF, hgF]
      refine ⟨fun hh => ?_, fun hh => ?_⟩
      · by_cases e : k = i
        · subst e; rw [if_pos (by omega)]; omega
        · have := i1 (by omega)
          split <;> omega
      · by_cases e : k' = i
        · subst e; rw [if_pos (by omega)]; omega
        · have := i2 (by omega)
          split <;> omega
  have b := lwF_b (lo := lo) (hi := hi) hp (by omega) (by omega) n (Nat.le_refl _)
  have := key n (Nat.le_refl _)
  omega
theorem aucFits (a : Nat → AuO) (x : Nat → Int) (n : Nat) (p : Int) (hn : n ≤ 32) (hp : -1000000 ≤ p ∧ p ≤ 1000000) : Fn1 Try.prog 48 [.c (.sl 4 n (cAo a)), .c (.sl 1 n (c1 x)), intV p] (boolV (decide (loA a x n ≤ p ∧ p ≤ hiA a x n))) := by
  refine fn_of_wpx (O := lex) tab_ok gamA3_ok mixed Try.func48 (by kernel_rfl) rfl rfl rfl (by simp [Try.ntmps48]) (by kernel_rfl) ?_
  conv => whnf
  repeat' (first
    | (refine NilG.mk fun bn hbn => ?_; conv => whnf)
    | (refine Both.mk ?_ ?_ <;> conv => whnf)
    | exact trivial
    | (refine Br.mk (fun hb => ?_) (fun hb => ?_) <;> (first | (exfalso; revert hb; decide) | ((try simp only [BL] at hb) <;> (try simp only [DL] at hb) <;> conv => whnf)))
    | (refine And.intro ?_ ?_; (focus (first | exact id | exact rfl | exact trivial | (intro hg; first | exact hg | exact rfl | (simp; done) | (simp at hg ⊢; assumption)) | omega | decide | exact is2_c _ _ _ | exact is1_c _ _ | exact isS_c _ _ | exact isB_c _ _ | exact Nat.le_refl _ | assumption | exact mulLe (by decide) (by omega) | exact mulLe2 (by decide) (by omega) (by omega) | (intros; simp only [BL] at *; omega) | (intros; (try simp only [BL] at *); (try simp only [DL] at *); omega) | (intros; simp only [BL] at *; rw [wr_id (by omega) (by omega)]; omega) | (intro h1 h2; exact Bool.and_eq_true_iff.2 ⟨h1, h2⟩) | (intros; simp_all; done))); conv => whnf)
    | (refine Or.inr (And.intro rfl ?_); first | (refine congrArg intV ?_) | (refine congrArg boolV ?_) | (refine tupII ?_ ?_) | (refine tupIII ?_ ?_ ?_) | (refine tupU ?_ ?_ ?_ ?_ ?_) | exact rfl))
  refine sem_loop tab_ok gamA3_ok mixed (by kernel_rfl) (O := lex) (fun i : Nat => ⟨[(1, .c (.sl 1 n (c1 x))), (2, intV p), (11, .c (.sl 4 n (cAo a))), (12, intV n), (13, intV i)], []⟩) (fun i => i ≤ n ∧ loA a x i ≤ p ∧ p ≤ hiA a x i) (fun i => n - i) ⟨0, [], ⟨Nat.zero_le _, by show (-1099511627776 : Int) ≤ p; omega, by show p ≤ (1099511627776 : Int); omega⟩, ?_⟩ fun i hi => ?_
  · refine Sub.of ?_ ?_ ?_
    repeat' (first | (refine And.intro ?_ ?_) | exact trivial | exact fun _ _ _ => hsc _ _ | (exact congrArg intV (by first | with_reducible rfl | with_reducible assumption)) | exact (rfl : AV.idsLt _ _ = true) | exact (rfl : _ = AV.ren _ (.own _)) | exact (rfl : _ = AV.ren _ (.fn _ _)) | exact (rfl : _ = AV.ren _ (.gh _)) | (exact congrArg intV (by assumption)) | (refine congrArg intV ((wr_id (by omega) (by omega)).trans (by omega))) | exact rfl | (simp only [Int.toNat_natCast, Int.toNat_zero, Nat.sub_zero, Nat.zero_add]; first | exact rfl | done) | exact all0 | exact fun h => Bool.noConfusion h | exact fun _ _ _ _ => rfl | omega)
  have hm := lo_mono a x (i := i + 1) (j := n)
  have hlo : loA a x (i + 1) = if aLw a x i then max (loA a x i) (a i).pr else loA a x i := rfl
  have hhi : hiA a x (i + 1) = if aUp a x i then min (hiA a x i) (a i).pr else hiA a x i := rfl
  conv => whnf
  repeat' (first
    | (refine NilG.mk fun bn hbn => ?_; conv => whnf)
    | (refine Both.mk ?_ ?_ <;> conv => whnf)
    | exact trivial
    | (refine Br.mk (fun hb => ?_) (fun hb => ?_) <;> (first | (exfalso; revert hb; decide) | ((try simp only [BL] at hb) <;> (try simp only [DL] at hb) <;> conv => whnf)))
    | (refine And.intro ?_ ?_; (focus (first | exact id | exact rfl | exact trivial | (intro hg; first | exact hg | exact rfl | (simp; done) | (simp at hg ⊢; assumption)) | omega | decide | exact is2_c _ _ _ | exact is1_c _ _ | exact isS_c _ _ | exact isB_c _ _ | exact Nat.le_refl _ | assumption | exact mulLe (by decide) (by omega) | exact mulLe2 (by decide) (by omega) (by omega) | (intros; simp only [BL] at *; omega) | (intros; (try simp only [BL] at *); (try simp only [DL] at *); omega) | (intros; simp only [BL] at *; rw [wr_id (by omega) (by omega)]; omega) | (intro h1 h2; exact Bool.and_eq_true_iff.2 ⟨h1, h2⟩) | (intro h1 h2; clear hlo hhi hm hi; revert h1 h2; generalize decide (x (i : Int).toNat > 0) = D1; generalize decide (p > (a (i : Int).toNat).pr) = D2; generalize decide (p < (a (i : Int).toNat).pr) = D3; generalize decide (x (i : Int).toNat < (a (i : Int).toNat).pw) = D4; generalize (a (i : Int).toNat).bu = Y; revert D1 D2 D3 D4 Y; decide) | (intros; simp_all; done))); conv => whnf)
    | (refine Or.inr (And.intro rfl ?_); first | (refine congrArg intV ?_) | (refine congrArg boolV ?_) | (refine tupII ?_ ?_) | (refine tupIII ?_ ?_ ?_) | (refine tupU ?_ ?_ ?_ ?_ ?_) | exact rfl))
  · have hin : i < n := by omega
    refine (decide_eq_false fun hh => ?_).symm
    rcases hb with ⟨b, ⟨h1, h2⟩ | ⟨h1, h2⟩⟩ | ⟨b, ⟨h1, h2⟩ | ⟨h1, h2⟩⟩
    · have := hiA_le a x hin (.inl ⟨b, h1⟩); omega
    · have := loA_le a x hin (.inr ⟨b, h1⟩); omega
    · have := loA_le a x hin (.inl ⟨b, h1⟩); omega
    · have := hiA_le a x hin (.inr ⟨b, h1⟩); omega
  · have n1 : loA a x (i + 1) ≤ p := by
      rw [hlo]
      split
      · rename_i hc
        have : (a i).pr ≤ p := by
          rcases hc with ⟨b, h1⟩ | ⟨b, h1⟩
          · rcases hb.2 with h | h
            · rw [b] at h; cases h
            · omega
          · rcases hb.1 with h | h
            · rw [b] at h; cases h
            · omega
        omega
      · omega
    have n2 : p ≤ hiA a x (i + 1) := by
      rw [hhi]
      split
      · rename_i hc
        have : p ≤ (a i).pr := by
          rcases hc with ⟨b, h1⟩ | ⟨b, h1⟩
          · rcases hb.1 with h | h
            · rw [b] at h; cases h
            · omega
          · rcases hb.2 with h | h
            · rw [b] at h; cases h
            · omega
        omega
      · omega
    clear hlo hhi hb
    refine ⟨i + 1, [], ⟨by omega, n1, n2⟩, by omega, ?_⟩
    refine Sub.of ?_ ?_ ?_
    repeat' (first | (refine And.intro ?_ ?_) | exact trivial | exact fun _ _ _ => hsc _ _ | (exact congrArg intV (by first | with_reducible rfl | with_reducible assumption)) | exact (rfl : AV.idsLt _ _ = true) | exact (rfl : _ = AV.ren _ (.own _)) | exact (rfl : _ = AV.ren _ (.fn _ _)) | exact (rfl : _ = AV.ren _ (.gh _)) | (exact congrArg intV (by assumption)) | (refine congrArg intV ((wr_id (by omega) (by omega)).trans (by omega))) | exact rfl | (simp only [Int.toNat_natCast, Int.toNat_zero, Nat.sub_zero, Nat.zero_add]; first | exact rfl | done) | exact all0 | exact fun h => Bool.noConfusion h | exact fun _ _ _ _ => rfl | omega)
  · obtain rfl : i = n := by omega
    exact (decide_eq_true hi.2).symm
end Go.Proofs.Ytdakikgebfphmaa
