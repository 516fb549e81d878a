/-
  Alarms: sorting names.
-/
import Derived.Test.YthbjdcopncebjaaAlC
namespace Go.Proofs.Ythbjdcopncebjaa
open Go.RowKit

theorem bl_self (s : ByteArray) : (s.toList == s.toList) = true := by simp
theorem nmNaN (s : ByteArray) : Fn1 Try.prog 154 [strV s] (boolV false) := by
  refine fn_of_wpx (O := lex) tab_ok (Γ := fun _ => none) (fun _ _ h => by cases h) mixed Try.func154 (by kernel_rfl) rfl rfl rfl (by simp [Try.ntmps154]) (by kernel_rfl) ?_
  conv => whnf
  repeat' (first
    | (refine NilG.mk fun bn hbn hbx => ?_; conv => whnf)
    | (refine Both.mk ?_ ?_ <;> conv => whnf)
    | exact trivial
    | (refine Br.mk (fun hb => ?_) (fun hb => ?_) <;> (first | (exfalso; revert hb; decide) | ((try simp only [BL] at hb) <;> (try simp only [DL] at hb) <;> conv => whnf)))
    | (refine And.intro ?_ ?_; (focus (first | exact id | exact rfl | exact trivial | (intro hg; first | exact hg | exact rfl | (simp; done) | (simp at hg ⊢; assumption)) | omega | decide | exact is2_c _ _ _ | exact is1_c _ _ | exact isS_c _ _ | exact isB_c _ _ | exact Nat.le_refl _ | assumption | exact mulLe (by decide) (by omega) | exact mulLe2 (by decide) (by omega) (by omega) | (intros; simp only [BL] at *; omega) | (intros; (try simp only [BL] at *); (try simp only [DL] at *); omega) | (intros; simp only [BL] at *; rw [wr_id (by omega) (by omega)]; omega) | (intro h1 h2; exact Bool.and_eq_true_iff.2 ⟨h1, h2⟩) | (intros; simp_all; done))); conv => whnf)
    | (refine Or.inr (And.intro rfl ?_); first | (refine congrArg intV ?_) | (refine congrArg boolV ?_) | (refine tupII ?_ ?_) | (refine tupIII ?_ ?_ ?_) | (refine tupU ?_ ?_ ?_ ?_ ?_) | exact rfl))
  · show (!(s.toList == s.toList)) = false
    rw [bl_self]
    rfl
def s1N (r : AV) : List AV → Sd × AV
  | [.c (.v (.string _))] => (.t, r)
  | _ => (.p False, .top)
def gamNa : Gam := fun f => match f with
  | 154 => some (s1N (boolV false))
  | _ => none
theorem gamNa_ok : GOk Try.prog gamNa := fun f g h => by
  unfold gamNa at h
  split at h
  · injection h with h; subst h
    intro args hs _
    unfold s1N at hs ⊢
    split at hs
    · exact nmNaN _
    · exact hs.elim
  · cases h
theorem nmLess (a b : ByteArray) : Fn1 Try.prog 143 [strV a, strV b] (boolV (bl a b)) := by
  refine fn_of_wpx (O := lex) tab_ok gamNa_ok mixed Try.func143 (by kernel_rfl) rfl rfl rfl (by simp [Try.ntmps143]) (by kernel_rfl) ?_
  conv => whnf
  repeat' (first
    | (refine NilG.mk fun bn hbn hbx => ?_; conv => whnf)
    | (refine Both.mk ?_ ?_ <;> conv => whnf)
    | exact trivial
    | (refine Br.mk (fun hb => ?_) (fun hb => ?_) <;> (first | (exfalso; revert hb; decide) | ((try simp only [BL] at hb) <;> (try simp only [DL] at hb) <;> conv => whnf)))
    | (refine And.intro ?_ ?_; (focus (first | exact id | exact rfl | exact trivial | (intro hg; first | exact hg | exact rfl | (simp; done) | (simp at hg ⊢; assumption)) | omega | decide | exact is2_c _ _ _ | exact is1_c _ _ | exact isS_c _ _ | exact isB_c _ _ | exact Nat.le_refl _ | assumption | exact mulLe (by decide) (by omega) | exact mulLe2 (by decide) (by omega) (by omega) | (intros; simp only [BL] at *; omega) | (intros; (try simp only [BL] at *); (try simp only [DL] at *); omega) | (intros; simp only [BL] at *; rw [wr_id (by omega) (by omega)]; omega) | (intro h1 h2; exact Bool.and_eq_true_iff.2 ⟨h1, h2⟩) | (intros; simp_all; done))); conv => whnf)
    | (refine Or.inr (And.intro rfl ?_); first | (refine congrArg intV ?_) | (refine congrArg boolV ?_) | (refine tupII ?_ ?_) | (refine tupIII ?_ ?_ ?_) | (refine tupU ?_ ?_ ?_ ?_ ?_) | exact rfl))
  · rfl
def s2N : List AV → Sd × AV
  | [.c (.v (.string a)), .c (.v (.string b))] => (.t, boolV (bl a b))
  | _ => (.p False, .top)
def gamNb : Gam := fun f => match f with
  | 143 => some s2N
  | _ => none
theorem gamNb_ok : GOk Try.prog gamNb := fun f g h => by
  unfold gamNb at h
  split at h
  · injection h with h; subst h
    intro args hs _
    unfold s2N at hs ⊢
    split at hs
    · exact nmLess _ _
    · exact hs.elim
  · cases h
abbrev rowN (n : Nat) (g : Nat → ByteArray) : OB := .row 9 1 n false (cS g)
/-- the first n are different names -/
def injN (g : Nat → ByteArray) (n : Nat) : Prop := ∀ a b, a < n → b < n → g a = g b → a = b
/-- the first n are in order -/
def srtN (g : Nat → ByteArray) (n : Nat) : Prop := ∀ a b, a < b → b < n → bl (g a) (g b) = true
def memN (g q : Nat → ByteArray) (n : Nat) : Prop := ∀ x, (∃ j, j < n ∧ q j = x) ↔ ∃ j, j < n ∧ g j = x
def swpN (g : Nat → ByteArray) (j : Nat) : Nat → ByteArray := fun k => if k = j - 1 then g j else if k = j then g (j - 1) else g k
theorem swp_mem {g : Nat → ByteArray} {j n : Nat} (h0 : 0 < j) (hj : j < n) : memN g (swpN g j) n := fun x => by
  constructor
  · rintro ⟨k, h1, h2⟩
    unfold swpN at h2
    split at h2
    · exact ⟨j, hj, h2⟩
    · split at h2
      · exact ⟨j - 1, by omega, h2⟩
      · exact ⟨k, h1, h2⟩
  · rintro ⟨k, h1, h2⟩
    by_cases e1 : k = j - 1
    · exact ⟨j, hj, by unfold swpN; rw [if_neg (by omega), if_pos rfl, ← e1]; exact h2⟩
    · by_cases e2 : k = j
      · exact ⟨j - 1, by omega, by unfold swpN; rw [if_pos rfl, ← e2]; exact h2⟩
      · exact ⟨k, h1, by unfold swpN; rw [if_neg e1, if_neg e2]; exact h2⟩
def swI (j k : Nat) : Nat := if k = j - 1 then j else if k = j then j - 1 else k
theorem swp_eq (g : Nat → ByteArray) (j k : Nat) : swpN g j k = g (swI j k) := by
  unfold swpN swI
  split
  · rfl
  · split <;> rfl
theorem swp_inj {g : Nat → ByteArray} {j n : Nat} (h0 : 0 < j) (hj : j < n) (h : injN g n) : injN (swpN g j) n := fun a b ha hb e => by
  rw [swp_eq, swp_eq] at e
  have hlt : ∀ k, k < n → swI j k < n := fun k hk => by
    unfold swI
    split
    · exact hj
    · split <;> omega
  have e2 := h _ _ (hlt a ha) (hlt b hb) e
  unfold swI at e2
  (repeat' split at e2) <;> omega
theorem memN.trans {g q r : Nat → ByteArray} {n : Nat} (h : memN g q n) (k : memN q r n) : memN g r n := fun x => (k x).trans (h x)
/-- within a round: only j is out of place -/
def midN (g : Nat → ByteArray) (i j : Nat) : Prop := ∀ a b, a < b → b ≤ i → b ≠ j → bl (g a) (g b) = true
theorem mid_step {g : Nat → ByteArray} {i j : Nat} (h : midN g i j) (h0 : 0 < j) (hj : j ≤ i) (hl : bl (g j) (g (j - 1)) = true) : midN (swpN g j) i (j - 1) := fun a b hab hb hne => by
  unfold swpN
  by_cases b2 : b = j
  · rw [if_neg (by omega : ¬ b = j - 1), if_pos b2]
    by_cases a1 : a = j - 1
    · rw [if_pos a1]; exact hl
    · rw [if_neg a1, if_neg (by omega)]
      exact h a (j - 1) (by omega) (by omega) (by omega)
  · rw [if_neg hne, if_neg b2]
    by_cases a1 : a = j - 1
    · rw [if_pos a1]
      exact h j b (by omega) hb b2
    · rw [if_neg a1]
      by_cases a2 : a = j
      · rw [if_pos a2]; exact h (j - 1) b (by omega) hb b2
      · rw [if_neg a2]; exact h a b hab hb b2
theorem mid_end {g : Nat → ByteArray} {i j n : Nat} (h : midN g i j) (hj : j ≤ i) (hi : i < n) (hn : injN g n) (hl : j = 0 ∨ bl (g j) (g (j - 1)) = false) : srtN g (i + 1) := fun a b hab hb => by
  by_cases e : b = j
  · subst e
    rcases hl with h0 | h0
    · omega
    · have h1 : bl (g (b - 1)) (g b) = true := bl_tri h0 fun e => by
        have := hn _ _ (by omega) (by omega) e
        omega
      by_cases e2 : a = b - 1
      · rw [e2]; exact h1
      · exact bl_trans (h a (b - 1) (by omega) (by omega) (by omega)) h1
  · exact h a b hab (by omega) e
def srK (n : Nat) (g : Nat → ByteArray) (obs : List OB) (r : AV) : Prop := ∃ q, memN g q n ∧ srtN q n ∧ injN q n ∧ obs = [rowN n q] ∧ r = .tup []
theorem alIns (n : Nat) (g0 : Nat → ByteArray) (hn : n ≤ 12) (hi0 : injN g0 n) : FnM Try.prog 137 [rowN n g0] [.own 0, intV 0, intV n] (srK n g0) := by
  refine fnM_of_wpx (O := lex) tab_ok gamNb_ok mixed Try.func137 (by kernel_rfl) rfl rfl rfl (by simp [Try.ntmps137]) (by kernel_rfl) ?_
  conv => whnf
  repeat' (first
    | (refine NilG.mk fun bn hbn hbx => ?_; conv => whnf)
    | (refine Both.mk ?_ ?_ <;> conv => whnf)
    | exact trivial
    | (refine Br.mk (fun hb => ?_) (fun hb => ?_) <;> (first | (exfalso; revert hb; decide) | ((try simp only [BL] at hb) <;> (try simp only [DL] at hb) <;> conv => whnf)))
    | (refine And.intro ?_ ?_; (focus (first | exact id | exact rfl | exact trivial | (intro hg; first | exact hg | exact rfl | (simp; done) | (simp at hg ⊢; assumption)) | omega | decide | exact is2_c _ _ _ | exact is1_c _ _ | exact isS_c _ _ | exact isB_c _ _ | exact Nat.le_refl _ | assumption | exact mulLe (by decide) (by omega) | exact mulLe2 (by decide) (by omega) (by omega) | (intros; simp only [BL] at *; omega) | (intros; (try simp only [BL] at *); (try simp only [DL] at *); omega) | (intros; simp only [BL] at *; rw [wr_id (by omega) (by omega)]; omega) | (intro h1 h2; exact Bool.and_eq_true_iff.2 ⟨h1, h2⟩) | (intros; simp_all; done))); conv => whnf)
    | (refine Or.inr (And.intro rfl ?_); first | (refine congrArg intV ?_) | (refine congrArg boolV ?_) | (refine tupII ?_ ?_) | (refine tupIII ?_ ?_ ?_) | (refine tupU ?_ ?_ ?_ ?_ ?_) | exact rfl))
  refine sem_loop tab_ok gamNb_ok mixed (by kernel_rfl) (O := lex) (fun x : Nat × (Nat → ByteArray) => ⟨[(0, .own 0), (1, intV 0), (2, intV n), (6, intV x.1), (1000000, .gh 0)], [rowN n x.2]⟩) (fun x => 1 ≤ x.1 ∧ (x.1 ≤ n ∨ x.1 = 1) ∧ memN g0 x.2 n ∧ injN x.2 n ∧ srtN x.2 x.1) (fun x => n - x.1) ⟨(1, g0), [?_], ⟨Nat.le_refl _, .inr rfl, fun _ => Iff.rfl, hi0, fun a b h1 h2 => by omega⟩, ?_⟩ fun x hx => ?_
  rotate_left 1
  · refine Sub.of ?_ ?_ ?_
    repeat' (first | (refine And.intro ?_ ?_) | exact trivial | exact fun _ _ _ => hsc _ _ | (exact congrArg intV (by first | with_reducible rfl | with_reducible assumption)) | exact (rfl : AV.idsLt _ _ = true) | exact (rfl : _ = AV.ren _ (.own _)) | exact (rfl : _ = AV.ren _ (.fn _ _)) | exact (rfl : _ = AV.ren _ (.gh _)) | (exact congrArg intV (by assumption)) | (refine congrArg intV ((wr_id (by omega) (by omega)).trans (by omega))) | exact rfl | (simp only [Int.toNat_natCast, Int.toNat_zero, Nat.sub_zero, Nat.zero_add]; first | exact rfl | done) | exact all0 | exact fun h => Bool.noConfusion h | exact fun _ _ _ _ => rfl | omega)
  obtain ⟨i, q⟩ := x
  obtain ⟨x1, x2, x3, x4, x5⟩ := hx
  dsimp only at x1 x2 x3 x4 x5 ⊢
  conv => whnf
  repeat' (first
    | (refine NilG.mk fun bn hbn hbx => ?_; conv => whnf)
    | (refine Both.mk ?_ ?_ <;> conv => whnf)
    | exact trivial
    | (refine Br.mk (fun hb => ?_) (fun hb => ?_) <;> (first | (exfalso; revert hb; decide) | ((try simp only [BL] at hb) <;> (try simp only [DL] at hb) <;> (first | (exfalso; omega) | (conv => whnf)))))
    | (refine And.intro ?_ ?_; (focus (first | exact id | exact rfl | exact trivial | (intro hg; first | exact hg | exact rfl | (simp; done) | (simp at hg ⊢; assumption)) | omega | decide | exact is2_c _ _ _ | exact is1_c _ _ | exact isS_c _ _ | exact isB_c _ _ | exact Nat.le_refl _ | assumption | exact mulLe (by decide) (by omega) | exact mulLe2 (by decide) (by omega) (by omega) | (intros; simp only [BL] at *; omega) | (intros; (try simp only [BL] at *); (try simp only [DL] at *); omega) | (intros; simp only [BL] at *; rw [wr_id (by omega) (by omega)]; omega) | (intro h1 h2; exact Bool.and_eq_true_iff.2 ⟨h1, h2⟩) | (intros; simp_all; done))); conv => whnf)
    | (refine Or.inr (And.intro rfl ?_); first | (refine congrArg intV ?_) | (refine congrArg boolV ?_) | (refine tupII ?_ ?_) | (refine tupIII ?_ ?_ ?_) | (refine tupU ?_ ?_ ?_ ?_ ?_) | exact rfl))
  · have hin : i < n := by omega
    refine sem_loop tab_ok gamNb_ok mixed (by kernel_rfl) (O := lex) (fun y : Nat × (Nat → ByteArray) => ⟨[(0, .own 0), (1, intV 0), (2, intV n), (6, intV i), (7, intV y.1), (1000000, .gh 0)], [rowN n y.2]⟩) (fun y => y.1 ≤ i ∧ memN g0 y.2 n ∧ injN y.2 n ∧ midN y.2 i y.1) (fun y => y.1) ⟨(i, q), [?_], ⟨Nat.le_refl i, x3, x4, fun a b h1 h2 h3 => x5 a b h1 (by show b < i; omega)⟩, ?_⟩ fun y hy => ?_
    rotate_left 1
    · refine Sub.of ?_ ?_ ?_
      repeat' (first | (refine And.intro ?_ ?_) | exact trivial | exact fun _ _ _ => hsc _ _ | (exact congrArg intV (by first | with_reducible rfl | with_reducible assumption)) | exact (rfl : AV.idsLt _ _ = true) | exact (rfl : _ = AV.ren _ (.own _)) | exact (rfl : _ = AV.ren _ (.fn _ _)) | exact (rfl : _ = AV.ren _ (.gh _)) | (exact congrArg intV (by assumption)) | (refine congrArg intV ((wr_id (by omega) (by omega)).trans (by omega))) | exact rfl | (simp only [Int.toNat_natCast, Int.toNat_zero, Nat.sub_zero, Nat.zero_add]; first | exact rfl | done) | exact all0 | exact fun h => Bool.noConfusion h | exact fun _ _ _ _ => rfl | omega)
    obtain ⟨j, g⟩ := y
    obtain ⟨y1, y2, y3, y4⟩ := hy
    dsimp only at y1 y2 y3 y4 ⊢
    have ej : 0 < j → (IntKind.i64.wrap ((j : Int) - 1)).toNat = j - 1 := fun h => by rw [wr_id (by omega) (by omega)]; omega
    have ej0 : 0 < j → IntKind.i64.wrap ((j : Int) - 1) = ((j - 1 : Nat) : Int) := fun h => (wr_id (by omega) (by omega)).trans (by omega)
    conv => whnf
    repeat' (first
      | (refine NilG.mk fun bn hbn hbx => ?_; conv => whnf)
      | (refine Both.mk ?_ ?_ <;> conv => whnf)
      | exact trivial
      | (refine Br.mk (fun hb => ?_) (fun hb => ?_) <;> (first | (exfalso; revert hb; decide) | ((try simp only [BL] at hb) <;> (try simp only [DL] at hb) <;> conv => whnf)))
      | (refine And.intro ?_ ?_; (focus (first | exact id | exact rfl | exact trivial | (intro hg; first | exact hg | exact rfl | (simp; done) | (simp at hg ⊢; assumption)) | omega | decide | exact is2_c _ _ _ | exact is1_c _ _ | exact isS_c _ _ | exact isB_c _ _ | exact Nat.le_refl _ | assumption | exact mulLe (by decide) (by omega) | exact mulLe2 (by decide) (by omega) (by omega) | (intros; simp only [BL] at *; omega) | (intros; (try simp only [BL] at *); (try simp only [DL] at *); omega) | (intros; simp only [BL] at *; rw [wr_id (by omega) (by omega)]; omega) | (intro h1 h2; exact Bool.and_eq_true_iff.2 ⟨h1, h2⟩) | (intro hg; simp only [BL] at hg; have := ej0 (by omega); omega) | (intro hg; simp only [BL] at hg; have := ej0 (by omega); refine ⟨rfl, ?_, by decide⟩; omega) | (have := ej0 (by omega); refine ⟨rfl, ?_, by decide⟩; omega) | (intros; simp_all; done))); conv => whnf)
      | (refine Or.inr (And.intro rfl ?_); first | (refine congrArg intV ?_) | (refine congrArg boolV ?_) | (refine tupII ?_ ?_) | (refine tupIII ?_ ?_ ?_) | (refine tupU ?_ ?_ ?_ ?_ ?_) | exact rfl))
    · have hj : 0 < j := by omega
      have hb2 : bl (g j) (g (j - 1)) = true := by have h1 := hb.2; rw [ej hj] at h1; exact h1
      refine ⟨(j - 1, swpN g j), [?_], ⟨(by omega : j - 1 ≤ i), y2.trans (swp_mem hj (by omega)), swp_inj hj (by omega) y3, mid_step y4 hj y1 hb2⟩, (by omega : j - 1 < j), ?_⟩
      rotate_left 1
      refine Sub.of ?_ ?_ ?_
      repeat' (first | (exact congrArg intV (ej0 hj)) | (refine And.intro ?_ ?_) | exact trivial | exact fun _ _ _ => hsc _ _ | (exact congrArg intV (by first | with_reducible rfl | with_reducible assumption)) | exact (rfl : AV.idsLt _ _ = true) | exact (rfl : _ = AV.ren _ (.own _)) | exact (rfl : _ = AV.ren _ (.fn _ _)) | exact (rfl : _ = AV.ren _ (.gh _)) | (exact congrArg intV (by assumption)) | (refine congrArg intV ((wr_id (by omega) (by omega)).trans (by omega))) | exact rfl | (simp only [Int.toNat_natCast, Int.toNat_zero, Nat.sub_zero, Nat.zero_add]; first | exact rfl | done) | exact all0 | exact fun h => Bool.noConfusion h | exact fun _ _ _ _ => rfl | omega)
      intro a ha b hb9
      match b, hb9 with
      | 0, _ =>
        show _ = sL (if a = j - 1 then g j else if a = j then g (j - 1) else g a)
        by_cases e1 : a = j - 1
        · rw [if_pos e1]
          refine (if_pos (by rw [ej hj]; exact e1)).trans ?_
          rfl
        · rw [if_neg e1]
          refine (if_neg (by rw [ej hj]; exact e1)).trans ?_
          by_cases e2 : a = j
          · rw [if_pos e2]
            refine (if_pos (by omega)).trans ?_
            show sL (g (IntKind.i64.wrap ((j : Int) - 1)).toNat) = _
            rw [ej hj]
          · rw [if_neg e2]
            exact if_neg (by omega)
    · have ei : IntKind.i64.wrap ((i : Int) + 1) = ((i + 1 : Nat) : Int) := (wr_id (by omega) (by omega)).trans (by omega)
      have hl : j = 0 ∨ bl (g j) (g (j - 1)) = false := by
        rcases hb with h | h
        · exact .inl (by omega)
        · by_cases hj : 0 < j
          · rw [ej hj] at h; exact .inr h
          · exact .inl (by omega)
      refine ⟨(i + 1, g), [?_], ⟨(by omega : 1 ≤ i + 1), .inl (by omega : i + 1 ≤ n), y2, y3, mid_end y4 y1 hin y3 hl⟩, (by omega : n - (i + 1) < n - i), ?_⟩
      rotate_left 1
      refine Sub.of ?_ ?_ ?_
      repeat' (first | (refine And.intro ?_ ?_) | exact trivial | exact fun _ _ _ => hsc _ _ | (exact congrArg intV (by first | with_reducible rfl | with_reducible assumption)) | exact (rfl : AV.idsLt _ _ = true) | exact (rfl : _ = AV.ren _ (.own _)) | exact (rfl : _ = AV.ren _ (.fn _ _)) | exact (rfl : _ = AV.ren _ (.gh _)) | (exact congrArg intV (by assumption)) | (refine congrArg intV ((wr_id (by omega) (by omega)).trans (by omega))) | exact rfl | (simp only [Int.toNat_natCast, Int.toNat_zero, Nat.sub_zero, Nat.zero_add]; first | exact rfl | done) | exact all0 | exact fun h => Bool.noConfusion h | exact fun _ _ _ _ => rfl | omega)
  · have hs : srtN q n := fun a b h1 h2 => x5 a b h1 (by omega)
    refine ⟨[0], [rowN n q], .tup [], rfl, ?_, rfl, rfl, ?_, Nat.le_refl _, ⟨q, x3, hs, x4, rfl, rfl⟩⟩
    all_goals repeat' (first | (refine And.intro ?_ ?_) | exact trivial | exact rfl | exact fun h => Bool.noConfusion h | exact fun _ _ _ _ => rfl)
set_option maxRecDepth 100000 in
set_option maxHeartbeats 2000000 in
theorem alLen64 (n : Nat) (hn : n ≤ 12) : Fn Try.prog 147 [.c (.v (.int .u64 n))] (fun obs r => obs = [] ∧ ∃ b, r = intV b) := by
  refine fn_of_wpx (O := lex) tab_ok (Γ := fun _ => none) (fun _ _ h => by cases h) mixed Try.func147 (by kernel_rfl) rfl rfl rfl (by simp [Try.ntmps147]) (by kernel_rfl) ?_
  have h : n = 0 ∨ n = 1 ∨ n = 2 ∨ n = 3 ∨ n = 4 ∨ n = 5 ∨ n = 6 ∨ n = 7 ∨ n = 8 ∨ n = 9 ∨ n = 10 ∨ n = 11 ∨ n = 12 := by omega
  rcases h with rfl | rfl | rfl | rfl | rfl | rfl | rfl | rfl | rfl | rfl | rfl | rfl | rfl
  iterate 13
    · conv => whnf
      repeat' (first
        | (refine NilG.mk fun bn hbn hbx => ?_; conv => whnf)
        | (refine Both.mk ?_ ?_ <;> conv => whnf)
        | exact trivial
        | (refine Br.mk (fun hb => ?_) (fun hb => ?_) <;> (first | (exfalso; revert hb; decide) | ((try simp only [BL] at hb) <;> (try simp only [DL] at hb) <;> conv => whnf)))
        | (refine And.intro ?_ ?_; (focus (first | exact id | exact rfl | exact trivial | (intro hg; first | exact hg | exact rfl | (simp; done) | (simp at hg ⊢; assumption)) | omega | decide | exact is2_c _ _ _ | exact is1_c _ _ | exact isS_c _ _ | exact isB_c _ _ | exact Nat.le_refl _ | assumption | exact mulLe (by decide) (by omega) | exact mulLe2 (by decide) (by omega) (by omega) | (intros; simp only [BL] at *; omega) | (intros; (try simp only [BL] at *); (try simp only [DL] at *); omega) | (intros; simp only [BL] at *; rw [wr_id (by omega) (by omega)]; omega) | (intro h1 h2; exact Bool.and_eq_true_iff.2 ⟨h1, h2⟩) | (intros; simp_all; done))); conv => whnf)
        | (refine Or.inr (And.intro rfl ?_); first | (refine congrArg intV ?_) | (refine congrArg boolV ?_) | (refine tupII ?_ ?_) | (refine tupIII ?_ ?_ ?_) | (refine tupU ?_ ?_ ?_ ?_ ?_) | exact rfl))
      · exact .inr ⟨rfl, _, rfl⟩
theorem alLen (n : Nat) (hn : n ≤ 12) : Fn Try.prog 133 [.c (.v (.int .u64 n))] (fun obs r => obs = [] ∧ ∃ b, r = intV b) := by
  refine fn_of_wpx (O := lex) tab_ok gamN1_ok mixed Try.func133 (by kernel_rfl) rfl rfl rfl (by simp [Try.ntmps133]) (by kernel_rfl) ?_
  conv => whnf
  repeat' (first
    | (refine NilG.mk fun bn hbn hbx => ?_; conv => whnf)
    | (refine Both.mk ?_ ?_ <;> conv => whnf)
    | exact trivial
    | (refine Br.mk (fun hb => ?_) (fun hb => ?_) <;> (first | (exfalso; revert hb; decide) | ((try simp only [BL] at hb) <;> (try simp only [DL] at hb) <;> conv => whnf)))
    | (refine And.intro ?_ ?_; (focus (first | exact id | exact rfl | exact trivial | (intro hg; first | exact hg | exact rfl | (simp; done) | (simp at hg ⊢; assumption)) | omega | decide | exact is2_c _ _ _ | exact is1_c _ _ | exact isS_c _ _ | exact isB_c _ _ | exact Nat.le_refl _ | assumption | exact mulLe (by decide) (by omega) | exact mulLe2 (by decide) (by omega) (by omega) | (intros; simp only [BL] at *; omega) | (intros; (try simp only [BL] at *); (try simp only [DL] at *); omega) | (intros; simp only [BL] at *; rw [wr_id (by omega) (by omega)]; omega) | (intro h1 h2; exact Bool.and_eq_true_iff.2 ⟨h1, h2⟩) | (intros; simp_all; done))); conv => whnf)
    | (refine Or.inr (And.intro rfl ?_); first | (refine congrArg intV ?_) | (refine congrArg boolV ?_) | (refine tupII ?_ ?_) | (refine tupIII ?_ ?_ ?_) | (refine tupU ?_ ?_ ?_ ?_ ?_) | exact rfl))
  refine CallG.mk (Fn.mono (alLen64 n hn) ?_)
  rintro obs r ⟨rfl, b, rfl⟩
  conv => whnf
  repeat' (first
    | (refine NilG.mk fun bn hbn hbx => ?_; conv => whnf)
    | (refine Both.mk ?_ ?_ <;> conv => whnf)
    | exact trivial
    | (refine Br.mk (fun hb => ?_) (fun hb => ?_) <;> (first | (exfalso; revert hb; decide) | ((try simp only [BL] at hb) <;> (try simp only [DL] at hb) <;> conv => whnf)))
    | (refine And.intro ?_ ?_; (focus (first | exact id | exact rfl | exact trivial | (intro hg; first | exact hg | exact rfl | (simp; done) | (simp at hg ⊢; assumption)) | omega | decide | exact is2_c _ _ _ | exact is1_c _ _ | exact isS_c _ _ | exact isB_c _ _ | exact Nat.le_refl _ | assumption | exact mulLe (by decide) (by omega) | exact mulLe2 (by decide) (by omega) (by omega) | (intros; simp only [BL] at *; omega) | (intros; (try simp only [BL] at *); (try simp only [DL] at *); omega) | (intros; simp only [BL] at *; rw [wr_id (by omega) (by omega)]; omega) | (intro h1 h2; exact Bool.and_eq_true_iff.2 ⟨h1, h2⟩) | (intros; simp_all; done))); conv => whnf)
    | (refine Or.inr (And.intro rfl ?_); first | (refine congrArg intV ?_) | (refine congrArg boolV ?_) | (refine tupII ?_ ?_) | (refine tupIII ?_ ?_ ?_) | (refine tupU ?_ ?_ ?_ ?_ ?_) | exact rfl))
  · exact .inr ⟨rfl, _, rfl⟩
theorem alPdq (n : Nat) (g : Nat → ByteArray) (l : Int) (hn : n ≤ 12) (hi0 : injN g n) : FnM Try.prog 132 [rowN n g] [.own 0, intV 0, intV n, intV l] (srK n g) := by
  refine fnM_of_wpx (O := lex) tab_ok (Γ := fun _ => none) (fun _ _ h => by cases h) mixed Try.func132 (by kernel_rfl) rfl rfl rfl (by simp [Try.ntmps132]) (by kernel_rfl) ?_
  conv => whnf
  repeat' (first
    | (refine NilG.mk fun bn hbn hbx => ?_; conv => whnf)
    | (refine Both.mk ?_ ?_ <;> conv => whnf)
    | exact trivial
    | (refine Br.mk (fun hb => ?_) (fun hb => ?_) <;> (first | (exfalso; revert hb; decide) | ((try simp only [BL] at hb) <;> (try simp only [DL] at hb) <;> conv => whnf)))
    | (refine And.intro ?_ ?_; (focus (first | exact id | exact rfl | exact trivial | (intro hg; first | exact hg | exact rfl | (simp; done) | (simp at hg ⊢; assumption)) | omega | decide | exact is2_c _ _ _ | exact is1_c _ _ | exact isS_c _ _ | exact isB_c _ _ | exact Nat.le_refl _ | assumption | exact mulLe (by decide) (by omega) | exact mulLe2 (by decide) (by omega) (by omega) | (intros; simp only [BL] at *; omega) | (intros; (try simp only [BL] at *); (try simp only [DL] at *); omega) | (intros; simp only [BL] at *; rw [wr_id (by omega) (by omega)]; omega) | (intro h1 h2; exact Bool.and_eq_true_iff.2 ⟨h1, h2⟩) | (intros; simp_all; done))); conv => whnf)
    | (refine Or.inr (And.intro rfl ?_); first | (refine congrArg intV ?_) | (refine congrArg boolV ?_) | (refine tupII ?_ ?_) | (refine tupIII ?_ ?_ ?_) | (refine tupU ?_ ?_ ?_ ?_ ?_) | exact rfl))
  refine sem_loop tab_ok gamN1_ok mixed (by kernel_rfl) (O := lex) (fun x : Nat => ⟨[(0, .own 0), (1, intV 0), (2, intV n), (3, intV l), (8, boolV true), (9, boolV true), (1000000, .gh 0)], [rowN n g]⟩) (fun x => x = 0) (fun x => x) ⟨0, [?_], rfl, ?_⟩ fun x hx => ?_
  rotate_left 1
  · refine Sub.of ?_ ?_ ?_
    repeat' (first | (refine And.intro ?_ ?_) | exact trivial | exact fun _ _ _ => hsc _ _ | (exact congrArg intV (by first | with_reducible rfl | with_reducible assumption)) | exact (rfl : AV.idsLt _ _ = true) | exact (rfl : _ = AV.ren _ (.own _)) | exact (rfl : _ = AV.ren _ (.fn _ _)) | exact (rfl : _ = AV.ren _ (.gh _)) | (exact congrArg intV (by assumption)) | (refine congrArg intV ((wr_id (by omega) (by omega)).trans (by omega))) | exact rfl | (simp only [Int.toNat_natCast, Int.toNat_zero, Nat.sub_zero, Nat.zero_add]; first | exact rfl | done) | exact all0 | exact fun h => Bool.noConfusion h | exact fun _ _ _ _ => rfl | omega)
  have e0 : IntKind.i64.wrap ((n : Int) - 0) = n := (wr_id (by omega) (by omega)).trans (by omega)
  conv => whnf
  repeat' (first
    | (refine NilG.mk fun bn hbn hbx => ?_; conv => whnf)
    | (refine Both.mk ?_ ?_ <;> conv => whnf)
    | exact trivial
    | (refine Br.mk (fun hb => ?_) (fun hb => ?_) <;> (first | (exfalso; revert hb; decide) | ((try simp only [BL] at hb) <;> (try simp only [DL] at hb) <;> (first | (exfalso; omega) | (conv => whnf)))))
    | (refine And.intro ?_ ?_; (focus (first | exact id | exact rfl | exact trivial | (intro hg; first | exact hg | exact rfl | (simp; done) | (simp at hg ⊢; assumption)) | omega | decide | exact is2_c _ _ _ | exact is1_c _ _ | exact isS_c _ _ | exact isB_c _ _ | exact Nat.le_refl _ | assumption | exact mulLe (by decide) (by omega) | exact mulLe2 (by decide) (by omega) (by omega) | (intros; simp only [BL] at *; omega) | (intros; (try simp only [BL] at *); (try simp only [DL] at *); omega) | (intros; simp only [BL] at *; rw [wr_id (by omega) (by omega)]; omega) | (intro h1 h2; exact Bool.and_eq_true_iff.2 ⟨h1, h2⟩) | (intros; simp_all; done))); conv => whnf)
    | (refine Or.inr (And.intro rfl ?_); first | (refine congrArg intV ?_) | (refine congrArg boolV ?_) | (refine tupII ?_ ?_) | (refine tupIII ?_ ?_ ?_) | (refine tupU ?_ ?_ ?_ ?_ ?_) | exact rfl))
  refine CallG.wr [0] rfl (FnM.mono (alIns n g hn hi0) ?_)
  rintro obs r ⟨q, q1, q2, q3, rfl, rfl⟩
  conv => whnf
  repeat' (first
    | (refine NilG.mk fun bn hbn hbx => ?_; conv => whnf)
    | (refine Both.mk ?_ ?_ <;> conv => whnf)
    | exact trivial
    | (refine Br.mk (fun hb => ?_) (fun hb => ?_) <;> (first | (exfalso; revert hb; decide) | ((try simp only [BL] at hb) <;> (try simp only [DL] at hb) <;> (first | (exfalso; omega) | (conv => whnf)))))
    | (refine And.intro ?_ ?_; (focus (first | exact id | exact rfl | exact trivial | (intro hg; first | exact hg | exact rfl | (simp; done) | (simp at hg ⊢; assumption)) | omega | decide | exact is2_c _ _ _ | exact is1_c _ _ | exact isS_c _ _ | exact isB_c _ _ | exact Nat.le_refl _ | assumption | exact mulLe (by decide) (by omega) | exact mulLe2 (by decide) (by omega) (by omega) | (intros; simp only [BL] at *; omega) | (intros; (try simp only [BL] at *); (try simp only [DL] at *); omega) | (intros; simp only [BL] at *; rw [wr_id (by omega) (by omega)]; omega) | (intro h1 h2; exact Bool.and_eq_true_iff.2 ⟨h1, h2⟩) | (intros; simp_all; done))); conv => whnf)
    | (refine Or.inr (And.intro rfl ?_); first | (refine congrArg intV ?_) | (refine congrArg boolV ?_) | (refine tupII ?_ ?_) | (refine tupIII ?_ ?_ ?_) | (refine tupU ?_ ?_ ?_ ?_ ?_) | exact rfl))
  refine ⟨[0], [rowN n q], .tup [], rfl, ?_, rfl, rfl, ?_, Nat.le_refl _, ⟨q, q1, q2, q3, rfl, rfl⟩⟩
  all_goals repeat' (first | (refine And.intro ?_ ?_) | exact trivial | exact rfl | exact fun h => Bool.noConfusion h | exact fun _ _ _ _ => rfl)
theorem alSort (n : Nat) (g : Nat → ByteArray) (hn : n ≤ 12) (hi0 : injN g n) : FnM Try.prog 116 [rowN n g] [.own 0] (srK n g) := by
  refine fnM_of_wpx (O := lex) tab_ok (Γ := fun _ => none) (fun _ _ h => by cases h) mixed Try.func116 (by kernel_rfl) rfl rfl rfl (by simp [Try.ntmps116]) (by kernel_rfl) ?_
  have eu : IntKind.u64.wrap (n : Int) = n := by
    simp only [IntKind.wrap, IntKind.bits, IntKind.signed]
    simp
    omega
  conv => whnf
  repeat' (first
    | (refine NilG.mk fun bn hbn hbx => ?_; conv => whnf)
    | (refine Both.mk ?_ ?_ <;> conv => whnf)
    | exact trivial
    | (refine Br.mk (fun hb => ?_) (fun hb => ?_) <;> (first | (exfalso; revert hb; decide) | ((try simp only [BL] at hb) <;> (try simp only [DL] at hb) <;> conv => whnf)))
    | (refine And.intro ?_ ?_; (focus (first | exact id | exact rfl | exact trivial | (intro hg; first | exact hg | exact rfl | (simp; done) | (simp at hg ⊢; assumption)) | omega | decide | exact is2_c _ _ _ | exact is1_c _ _ | exact isS_c _ _ | exact isB_c _ _ | exact Nat.le_refl _ | assumption | exact mulLe (by decide) (by omega) | exact mulLe2 (by decide) (by omega) (by omega) | (intros; simp only [BL] at *; omega) | (intros; (try simp only [BL] at *); (try simp only [DL] at *); omega) | (intros; simp only [BL] at *; rw [wr_id (by omega) (by omega)]; omega) | (intro h1 h2; exact Bool.and_eq_true_iff.2 ⟨h1, h2⟩) | (intros; simp_all; done))); conv => whnf)
    | (refine Or.inr (And.intro rfl ?_); first | (refine congrArg intV ?_) | (refine congrArg boolV ?_) | (refine tupII ?_ ?_) | (refine tupIII ?_ ?_ ?_) | (refine tupU ?_ ?_ ?_ ?_ ?_) | exact rfl))
  rw [eu]
  refine CallG.mk (Fn.mono (alLen n hn) ?_)
  rintro obs r ⟨rfl, b, rfl⟩
  conv => whnf
  repeat' (first
    | (refine NilG.mk fun bn hbn hbx => ?_; conv => whnf)
    | (refine Both.mk ?_ ?_ <;> conv => whnf)
    | exact trivial
    | (refine Br.mk (fun hb => ?_) (fun hb => ?_) <;> (first | (exfalso; revert hb; decide) | ((try simp only [BL] at hb) <;> (try simp only [DL] at hb) <;> conv => whnf)))
    | (refine And.intro ?_ ?_; (focus (first | exact id | exact rfl | exact trivial | (intro hg; first | exact hg | exact rfl | (simp; done) | (simp at hg ⊢; assumption)) | omega | decide | exact is2_c _ _ _ | exact is1_c _ _ | exact isS_c _ _ | exact isB_c _ _ | exact Nat.le_refl _ | assumption | exact mulLe (by decide) (by omega) | exact mulLe2 (by decide) (by omega) (by omega) | (intros; simp only [BL] at *; omega) | (intros; (try simp only [BL] at *); (try simp only [DL] at *); omega) | (intros; simp only [BL] at *; rw [wr_id (by omega) (by omega)]; omega) | (intro h1 h2; exact Bool.and_eq_true_iff.2 ⟨h1, h2⟩) | (intros; simp_all; done))); conv => whnf)
    | (refine Or.inr (And.intro rfl ?_); first | (refine congrArg intV ?_) | (refine congrArg boolV ?_) | (refine tupII ?_ ?_) | (refine tupIII ?_ ?_ ?_) | (refine tupU ?_ ?_ ?_ ?_ ?_) | exact rfl))
  refine CallG.wr [0] rfl (FnM.mono (alPdq n g b hn hi0) ?_)
  rintro obs r ⟨q, q1, q2, q3, rfl, rfl⟩
  conv => whnf
  repeat' (first
    | (refine NilG.mk fun bn hbn hbx => ?_; conv => whnf)
    | (refine Both.mk ?_ ?_ <;> conv => whnf)
    | exact trivial
    | (refine Br.mk (fun hb => ?_) (fun hb => ?_) <;> (first | (exfalso; revert hb; decide) | ((try simp only [BL] at hb) <;> (try simp only [DL] at hb) <;> (first | (exfalso; omega) | (conv => whnf)))))
    | (refine And.intro ?_ ?_; (focus (first | exact id | exact rfl | exact trivial | (intro hg; first | exact hg | exact rfl | (simp; done) | (simp at hg ⊢; assumption)) | omega | decide | exact is2_c _ _ _ | exact is1_c _ _ | exact isS_c _ _ | exact isB_c _ _ | exact Nat.le_refl _ | assumption | exact mulLe (by decide) (by omega) | exact mulLe2 (by decide) (by omega) (by omega) | (intros; simp only [BL] at *; omega) | (intros; (try simp only [BL] at *); (try simp only [DL] at *); omega) | (intros; simp only [BL] at *; rw [wr_id (by omega) (by omega)]; omega) | (intro h1 h2; exact Bool.and_eq_true_iff.2 ⟨h1, h2⟩) | (intros; simp_all; done))); conv => whnf)
    | (refine Or.inr (And.intro rfl ?_); first | (refine congrArg intV ?_) | (refine congrArg boolV ?_) | (refine tupII ?_ ?_) | (refine tupIII ?_ ?_ ?_) | (refine tupU ?_ ?_ ?_ ?_ ?_) | exact rfl))
  refine ⟨[0], [rowN n q], .tup [], rfl, ?_, rfl, rfl, ?_, Nat.le_refl _, ⟨q, q1, q2, q3, rfl, rfl⟩⟩
  all_goals repeat' (first | (refine And.intro ?_ ?_) | exact trivial | exact rfl | exact fun h => Bool.noConfusion h | exact fun _ _ _ _ => rfl)
end Go.Proofs.Ythbjdcopncebjaa
