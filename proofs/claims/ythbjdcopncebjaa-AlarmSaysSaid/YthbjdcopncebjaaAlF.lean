/-
  Alarms: the reference's order of names; lists that are the same.
-/
import Derived.Test.YthbjdcopncebjaaAlE
namespace Go.Proofs.Ythbjdcopncebjaa
open Go.RowKit

def insN (q : Nat → ByteArray) (s : ByteArray) (at_ k : Nat) : ByteArray := if k < at_ then q k else if k = at_ then s else q (k - 1)
theorem srt_inj {q : Nat → ByteArray} {m : Nat} (h : srtN q m) : injN q m := inj_ls.2 (stL_nodup (stL_ls h))
theorem srt_ins {q : Nat → ByteArray} {s : ByteArray} {i t : Nat} (h : srtN q i) (h1 : ∀ k, k < t → bl (q k) s = true) (h2 : ∀ k, t ≤ k → k < i → bl s (q k) = true) (ht : t ≤ i) : srtN (insN q s t) (i + 1) := fun a b hab hb => by
  unfold insN
  by_cases ha : a < t
  · rw [if_pos ha]
    by_cases hb2 : b < t
    · rw [if_pos hb2]; exact h a b hab (by omega)
    · rw [if_neg hb2]
      by_cases hb3 : b = t
      · rw [if_pos hb3]; exact h1 a ha
      · rw [if_neg hb3]; exact h a (b - 1) (by omega) (by omega)
  · rw [if_neg ha, if_neg (by omega : ¬ b < t), if_neg (by omega : ¬ b = t)]
    by_cases ha3 : a = t
    · rw [if_pos ha3]; exact h2 (b - 1) (by omega) (by omega)
    · rw [if_neg ha3]; exact h (a - 1) (b - 1) (by omega) (by omega)
theorem mem_ins {q : Nat → ByteArray} {s : ByteArray} {i t : Nat} (ht : t ≤ i) (x : ByteArray) : (∃ j, j < i + 1 ∧ insN q s t j = x) ↔ (∃ j, j < i ∧ q j = x) ∨ s = x := by
  constructor
  · rintro ⟨j, h1, h2⟩
    unfold insN at h2
    split at h2
    · exact .inl ⟨j, by omega, h2⟩
    · split at h2
      · exact .inr h2
      · exact .inl ⟨j - 1, by omega, h2⟩
  · rintro (⟨j, h1, h2⟩ | h2)
    · by_cases c : j < t
      · exact ⟨j, by omega, by unfold insN; rw [if_pos c]; exact h2⟩
      · exact ⟨j + 1, by omega, by unfold insN; rw [if_neg (by omega), if_neg (by omega)]; exact h2⟩
    · exact ⟨t, by omega, by unfold insN; rw [if_neg (by omega), if_pos rfl]; exact h2⟩
def shN (q : Nat → ByteArray) (i j k : Nat) : ByteArray := if k ≤ j then (if k < i then q k else ByteArray.empty) else q (k - 1)
/-- the first k of l are these, in order -/
def sdK (l q : Nat → ByteArray) (i : Nat) : Prop := srtN q i ∧ ∀ x, (∃ j, j < i ∧ q j = x) ↔ ∃ k, k < i ∧ l k = x
theorem sd_ins {l q : Nat → ByteArray} {i t n : Nat} (hl : injN l n) (hi : i < n) (h : sdK l q i) (h2 : ∀ k, t ≤ k → k < i → bl (l i) (q k) = true) (ht : t ≤ i) (h1 : t = 0 ∨ bl (l i) (q (t - 1)) = false) : sdK l (insN q (l i) t) (i + 1) := by
  refine ⟨srt_ins h.1 (fun k hk => ?_) h2 ht, fun x => (mem_ins ht x).trans ?_⟩
  · have h3 := h1.resolve_left (by omega)
    have hne : ¬ l i = q (t - 1) := fun e => by
      obtain ⟨k', k1, k2⟩ := (h.2 (l i)).1 ⟨t - 1, by omega, e.symm⟩
      have := hl k' i (by omega) hi k2
      omega
    have h4 := bl_tri h3 hne
    by_cases e : k = t - 1
    · rw [e]; exact h4
    · exact bl_trans (h.1 k (t - 1) (by omega) (by omega)) h4
  · rw [h.2 x]
    constructor
    · rintro (⟨k, k1, k2⟩ | k2)
      · exact ⟨k, by omega, k2⟩
      · exact ⟨i, by omega, k2⟩
    · rintro ⟨k, k1, k2⟩
      by_cases e : k = i
      · subst e; exact .inr k2
      · exact .inl ⟨k, by omega, k2⟩
theorem alSd (n : Nat) (l : Nat → ByteArray) (hn : n ≤ 12) (hi0 : injN l n) : Fn Try.prog 39 [.c (.sl 1 n (cS l))] (fun obs r => obs = [] ∧ ∃ q, sdK l q n ∧ r = .c (.sl 1 n (cS q))) := by
  refine fn_of_wpx (O := lex) tab_ok gamAb_ok mixed Try.func39 (by kernel_rfl) rfl rfl rfl (by simp [Try.ntmps39]) (by kernel_rfl) ?_
  conv => whnf
  repeat' (first
    | (refine NilG.mk fun bn hbn hbx => ?_; conv => whnf)
    | (refine Both.mk ?_ ?_ <;> conv => whnf)
    | exact trivial
    | (refine Br.mk (fun hb => ?_) (fun hb => ?_) <;> (first | (exfalso; revert hb; decide) | ((try simp only [BL] at hb) <;> (try simp only [DL] at hb) <;> (first | (exfalso; omega) | (conv => whnf)))))
    | (refine And.intro ?_ ?_; (focus (first | exact id | exact rfl | exact trivial | (intro hg; first | exact hg | exact rfl | (simp; done) | (simp at hg ⊢; assumption)) | omega | decide | exact is2_c _ _ _ | exact is1_c _ _ | exact isS_c _ _ | exact isB_c _ _ | exact Nat.le_refl _ | assumption | exact mulLe (by decide) (by omega) | exact mulLe2 (by decide) (by omega) (by omega) | (intros; simp only [BL] at *; omega) | (intros; (try simp only [BL] at *); (try simp only [DL] at *); omega) | (intros; simp only [BL] at *; rw [wr_id (by omega) (by omega)]; omega) | (intro h1 h2; exact Bool.and_eq_true_iff.2 ⟨h1, h2⟩) | (intros; simp_all; done))); conv => whnf)
    | (refine Or.inr (And.intro rfl ?_); first | (refine congrArg intV ?_) | (refine congrArg boolV ?_) | (refine tupII ?_ ?_) | (refine tupIII ?_ ?_ ?_) | (refine tupU ?_ ?_ ?_ ?_ ?_) | exact rfl))
  refine LoopG.nil 3 9 1 rfl ?_
  refine sem_loop tab_ok gamAb_ok mixed (by kernel_rfl) (O := lex) (fun y : Nat × (Nat → ByteArray) => ⟨[(3, .own 0), (8, .c (.sl 1 n (cS l))), (9, intV n), (10, intV y.1)], [rowN y.1 y.2]⟩) (fun y => y.1 ≤ n ∧ sdK l y.2 y.1) (fun y => n - y.1) ⟨(0, fun _ => ByteArray.empty), [?_], ⟨Nat.zero_le _, ⟨fun a b h1 h2 => absurd h2 (Nat.not_lt_zero _), fun x => ⟨fun ⟨j, h1, _⟩ => absurd h1 (Nat.not_lt_zero _), fun ⟨j, h1, _⟩ => absurd h1 (Nat.not_lt_zero _)⟩⟩⟩, ?_⟩ fun y hy => ?_
  rotate_left 1
  · refine Sub.of ?_ ?_ ?_
    repeat' (first | (refine And.intro ?_ ?_) | exact trivial | exact fun _ _ _ => hsc _ _ | (exact congrArg intV (by first | with_reducible rfl | with_reducible assumption)) | exact (rfl : AV.idsLt _ _ = true) | exact (rfl : _ = AV.ren _ (.own _)) | exact (rfl : _ = AV.ren _ (.fn _ _)) | exact (rfl : _ = AV.ren _ (.gh _)) | (exact congrArg intV (by assumption)) | (refine congrArg intV ((wr_id (by omega) (by omega)).trans (by omega))) | exact rfl | (simp only [Int.toNat_natCast, Int.toNat_zero, Nat.sub_zero, Nat.zero_add]; first | exact rfl | done) | exact all0 | exact fun h => Bool.noConfusion h | exact fun _ _ _ _ => rfl | omega)
  obtain ⟨i, q⟩ := y
  obtain ⟨y1, y2⟩ := hy
  dsimp only at y1 y2 ⊢
  have hb16 : e9.bytes = 16 := rfl
  conv => whnf
  repeat' (first
    | (refine NilG.mk fun bn hbn hbx => ?_; conv => whnf)
    | (refine Both.mk ?_ ?_ <;> conv => whnf)
    | exact trivial
    | (refine Br.mk (fun hb => ?_) (fun hb => ?_) <;> (first | (exfalso; revert hb; decide) | ((try simp only [BL] at hb) <;> (try simp only [DL] at hb) <;> (first | (exfalso; omega) | (conv => whnf)))))
    | (refine And.intro ?_ ?_; (focus (first | exact id | exact rfl | exact trivial | (intro hg; first | exact hg | exact rfl | (simp; done) | (simp at hg ⊢; assumption)) | omega | decide | exact is2_c _ _ _ | exact is1_c _ _ | exact isS_c _ _ | exact isB_c _ _ | exact Nat.le_refl _ | assumption | exact mulLe (by decide) (by omega) | exact mulLe2 (by decide) (by omega) (by omega) | (intros; simp only [BL] at *; omega) | (intros; (try simp only [BL] at *); (try simp only [DL] at *); omega) | (intros; simp only [BL] at *; rw [wr_id (by omega) (by omega)]; omega) | (intro h1 h2; exact Bool.and_eq_true_iff.2 ⟨h1, h2⟩) | exact ⟨rfl, by omega, by decide⟩ | (intros; simp_all; done))); conv => whnf)
    | (refine Or.inr (And.intro rfl ?_); first | (refine congrArg intV ?_) | (refine congrArg boolV ?_) | (refine tupII ?_ ?_) | (refine tupIII ?_ ?_ ?_) | (refine tupU ?_ ?_ ?_ ?_ ?_) | exact rfl))
  · have hin : i < n := by omega
    refine sem_loop tab_ok gamAb_ok mixed (by kernel_rfl) (O := lex) (fun t : Nat => ⟨[(3, .own 0), (5, strV (l i)), (6, intV t), (8, .c (.sl 1 n (cS l))), (9, intV n), (10, intV i)], [rowN i q]⟩) (fun t => t ≤ i ∧ ∀ k, t ≤ k → k < i → bl (l i) (q k) = true) (fun t => t) ⟨i, [?_], ⟨Nat.le_refl _, fun k h1 h2 => by omega⟩, ?_⟩ fun t ht => ?_
    rotate_left 1
    · refine Sub.of ?_ ?_ ?_
      repeat' (first | (refine And.intro ?_ ?_) | exact trivial | exact fun _ _ _ => hsc _ _ | (exact congrArg intV (by first | with_reducible rfl | with_reducible assumption)) | exact (rfl : AV.idsLt _ _ = true) | exact (rfl : _ = AV.ren _ (.own _)) | exact (rfl : _ = AV.ren _ (.fn _ _)) | exact (rfl : _ = AV.ren _ (.gh _)) | (exact congrArg intV (by assumption)) | (refine congrArg intV ((wr_id (by omega) (by omega)).trans (by omega))) | exact rfl | (simp only [Int.toNat_natCast, Int.toNat_zero, Nat.sub_zero, Nat.zero_add]; first | exact rfl | done) | exact all0 | exact fun h => Bool.noConfusion h | exact fun _ _ _ _ => rfl | omega)
    obtain ⟨t1, t2⟩ := ht
    have ej : 0 < t → (IntKind.i64.wrap ((t : Int) - 1)).toNat = t - 1 := fun h => by rw [wr_id (by omega) (by omega)]; omega
    have ej0 : 0 < t → IntKind.i64.wrap ((t : Int) - 1) = ((t - 1 : Nat) : Int) := fun h => (wr_id (by omega) (by omega)).trans (by omega)
    conv => whnf
    repeat' (first
      | (refine NilG.mk fun bn hbn hbx => ?_; conv => whnf)
      | (refine Both.mk ?_ ?_ <;> conv => whnf)
      | exact trivial
      | (refine Br.mk (fun hb => ?_) (fun hb => ?_) <;> (first | (exfalso; revert hb; decide) | ((try simp only [BL] at hb) <;> (try simp only [DL] at hb) <;> conv => whnf)))
      | (refine And.intro ?_ ?_; (focus (first | exact id | exact rfl | exact trivial | (intro hg; first | exact hg | exact rfl | (simp; done) | (simp at hg ⊢; assumption)) | omega | decide | exact is2_c _ _ _ | exact is1_c _ _ | exact isS_c _ _ | exact isB_c _ _ | exact Nat.le_refl _ | assumption | exact mulLe (by decide) (by omega) | exact mulLe2 (by decide) (by omega) (by omega) | (intros; simp only [BL] at *; omega) | (intros; (try simp only [BL] at *); (try simp only [DL] at *); omega) | (intros; simp only [BL] at *; rw [wr_id (by omega) (by omega)]; omega) | (intro h1 h2; exact Bool.and_eq_true_iff.2 ⟨h1, h2⟩) | (intro hg; simp only [BL] at hg; have := ej0 (by omega); omega) | (intro hg; simp only [BL] at hg; have := ej0 (by omega); refine ⟨rfl, ?_, by decide⟩; omega) | (have := ej0 (by omega); refine ⟨rfl, ?_, by decide⟩; omega) | (rw [hb16]; omega) | (intros; simp_all; done))); conv => whnf)
      | (refine Or.inr (And.intro rfl ?_); first | (refine congrArg intV ?_) | (refine congrArg boolV ?_) | (refine tupII ?_ ?_) | (refine tupIII ?_ ?_ ?_) | (refine tupU ?_ ?_ ?_ ?_ ?_) | exact rfl))
    · have ht0 : 0 < t := by omega
      have hb2 : bl (l i) (q (t - 1)) = true := by
        have h1 := hb.2
        rw [ej ht0] at h1
        exact bl_tri h1.1 (b_ne.1 h1.2)
      refine ⟨t - 1, [?_], ⟨(by omega : t - 1 ≤ i), fun k h1 h2 => by
            by_cases e : k = t - 1
            · rw [e]; exact hb2
            · exact t2 k (by omega) h2⟩, (by omega : t - 1 < t), ?_⟩
      rotate_left 1
      refine Sub.of ?_ ?_ ?_
      repeat' (first | (exact congrArg intV (ej0 ht0)) | (refine And.intro ?_ ?_) | exact trivial | exact fun _ _ _ => hsc _ _ | (exact congrArg intV (by first | with_reducible rfl | with_reducible assumption)) | exact (rfl : AV.idsLt _ _ = true) | exact (rfl : _ = AV.ren _ (.own _)) | exact (rfl : _ = AV.ren _ (.fn _ _)) | exact (rfl : _ = AV.ren _ (.gh _)) | (exact congrArg intV (by assumption)) | (refine congrArg intV ((wr_id (by omega) (by omega)).trans (by omega))) | exact rfl | (simp only [Int.toNat_natCast, Int.toNat_zero, Nat.sub_zero, Nat.zero_add]; first | exact rfl | done) | exact all0 | exact fun h => Bool.noConfusion h | exact fun _ _ _ _ => rfl | omega)
    · have hl : t = 0 ∨ bl (l i) (q (t - 1)) = false := by
        rcases hb with h | h
        · exact .inl (by omega)
        · by_cases h0 : 0 < t
          · rw [ej h0] at h
            rcases h with h | h
            · exact .inr (bl_asym h)
            · exact .inr (by rw [b_eq.1 h]; exact bl_irr _)
          · exact .inl (by omega)
      have e7 : IntKind.i64.wrap (((i + 1 : Nat) : Int) - 1) = ((i : Nat) : Int) := (wr_id (by omega) (by omega)).trans (by omega)
      refine sem_loop tab_ok gamAb_ok mixed (by kernel_rfl) (O := lex) (fun j : Nat => ⟨[(3, .own 0), (5, strV (l i)), (6, intV t), (7, intV j), (8, .c (.sl 1 n (cS l))), (9, intV n), (10, intV i)], [rowN (i + 1) (shN q i j)]⟩) (fun j => t ≤ j ∧ j ≤ i) (fun j => j) ⟨i, [?_], ⟨t1, Nat.le_refl _⟩, ?_⟩ fun j hj => ?_
      rotate_left 1
      · refine Sub.of ?_ ?_ ?_
        repeat' (first | (refine And.intro ?_ ?_) | exact trivial | exact fun _ _ _ => hsc _ _ | (exact congrArg intV (by first | with_reducible rfl | with_reducible assumption)) | exact (rfl : AV.idsLt _ _ = true) | exact (rfl : _ = AV.ren _ (.own _)) | exact (rfl : _ = AV.ren _ (.fn _ _)) | exact (rfl : _ = AV.ren _ (.gh _)) | (exact congrArg intV (by assumption)) | (refine congrArg intV ((wr_id (by omega) (by omega)).trans (by omega))) | exact rfl | (simp only [Int.toNat_natCast, Int.toNat_zero, Nat.sub_zero, Nat.zero_add]; first | exact rfl | done) | exact all0 | exact fun h => Bool.noConfusion h | exact fun _ _ _ _ => rfl | omega)
        · intro a ha b hb9
          have hb9 : b < 1 := hb9
          match b, hb9 with
          | 0, _ =>
            show _ = sL (if a ≤ i then (if a < i then q a else ByteArray.empty) else q (a - 1))
            rw [if_pos (by omega : a ≤ i)]
            by_cases c : a < i
            · exact (if_pos c).trans (congrArg sL (if_pos c).symm)
            · refine (if_neg c).trans ?_
              rw [if_neg c, show a - i = 0 by omega]
              rfl
      obtain ⟨j1, j2⟩ := hj
      have ek0 : 0 < j → IntKind.i64.wrap ((j : Int) - 1) = ((j - 1 : Nat) : Int) := fun h => (wr_id (by omega) (by omega)).trans (by omega)
      have ek : 0 < j → (IntKind.i64.wrap ((j : Int) - 1)).toNat = j - 1 := fun h => by rw [ek0 h]; omega
      conv => whnf
      repeat' (first
        | (refine NilG.mk fun bn hbn hbx => ?_; conv => whnf)
        | (refine Both.mk ?_ ?_ <;> conv => whnf)
        | exact trivial
        | (refine Br.mk (fun hb => ?_) (fun hb => ?_) <;> (first | (exfalso; revert hb; decide) | ((try simp only [BL] at hb) <;> (try simp only [DL] at hb) <;> (first | (exfalso; omega) | (conv => whnf)))))
        | (refine And.intro ?_ ?_; (focus (first | exact id | exact rfl | exact trivial | (intro hg; first | exact hg | exact rfl | (simp; done) | (simp at hg ⊢; assumption)) | omega | decide | exact is2_c _ _ _ | exact is1_c _ _ | exact isS_c _ _ | exact isB_c _ _ | exact Nat.le_refl _ | assumption | exact mulLe (by decide) (by omega) | exact mulLe2 (by decide) (by omega) (by omega) | (intros; simp only [BL] at *; omega) | (intros; (try simp only [BL] at *); (try simp only [DL] at *); omega) | (intros; simp only [BL] at *; rw [wr_id (by omega) (by omega)]; omega) | (intro h1 h2; exact Bool.and_eq_true_iff.2 ⟨h1, h2⟩) | first | (have := ek0 (by omega); refine ⟨rfl, ?_, by decide⟩; omega) | exact ⟨rfl, by omega, by decide⟩ | (intros; simp_all; done))); conv => whnf)
        | (refine Or.inr (And.intro rfl ?_); first | (refine congrArg intV ?_) | (refine congrArg boolV ?_) | (refine tupII ?_ ?_) | (refine tupIII ?_ ?_ ?_) | (refine tupU ?_ ?_ ?_ ?_ ?_) | exact rfl))
      · have hj0 : 0 < j := by omega
        refine ⟨j - 1, [?_], ⟨(by omega : t ≤ j - 1), (by omega : j - 1 ≤ i)⟩, (by omega : j - 1 < j), ?_⟩
        rotate_left 1
        refine Sub.of ?_ ?_ ?_
        repeat' (first | (exact congrArg intV (ek0 hj0)) | (refine And.intro ?_ ?_) | exact trivial | exact fun _ _ _ => hsc _ _ | (exact congrArg intV (by first | with_reducible rfl | with_reducible assumption)) | exact (rfl : AV.idsLt _ _ = true) | exact (rfl : _ = AV.ren _ (.own _)) | exact (rfl : _ = AV.ren _ (.fn _ _)) | exact (rfl : _ = AV.ren _ (.gh _)) | (exact congrArg intV (by assumption)) | (refine congrArg intV ((wr_id (by omega) (by omega)).trans (by omega))) | exact rfl | (simp only [Int.toNat_natCast, Int.toNat_zero, Nat.sub_zero, Nat.zero_add]; first | exact rfl | done) | exact all0 | exact fun h => Bool.noConfusion h | exact fun _ _ _ _ => rfl | omega)
        intro a ha b hb9
        match b, hb9 with
        | 0, _ =>
          show _ = sL (shN q i (j - 1) a)
          by_cases e1 : a = j
          · refine (if_pos (by omega)).trans ?_
            show sL (shN q i j (IntKind.i64.wrap ((j : Int) - 1)).toNat) = _
            rw [ek hj0, e1]
            unfold shN
            rw [if_pos (by omega), if_pos (by omega), if_neg (by omega)]
          · refine (if_neg (by omega)).trans ?_
            show sL (shN q i j a) = _
            unfold shN
            by_cases c : a ≤ j
            · rw [if_pos c, if_pos (show a ≤ j - 1 by omega)]
            · rw [if_neg c, if_neg (show ¬ a ≤ j - 1 by omega)]
      · obtain rfl : j = t := by omega
        have e10 : IntKind.i64.wrap ((i : Int) + 1) = ((i + 1 : Nat) : Int) := (wr_id (by omega) (by omega)).trans (by omega)
        refine ⟨(i + 1, insN q (l i) j), [?_], ⟨(by omega : i + 1 ≤ n), sd_ins hi0 hin y2 t2 t1 hl⟩, (by omega : n - (i + 1) < n - i), ?_⟩
        rotate_left 1
        refine Sub.of ?_ ?_ ?_
        repeat' (first | (refine And.intro ?_ ?_) | exact trivial | exact fun _ _ _ => hsc _ _ | (exact congrArg intV (by first | with_reducible rfl | with_reducible assumption)) | exact (rfl : AV.idsLt _ _ = true) | exact (rfl : _ = AV.ren _ (.own _)) | exact (rfl : _ = AV.ren _ (.fn _ _)) | exact (rfl : _ = AV.ren _ (.gh _)) | (exact congrArg intV (by assumption)) | (refine congrArg intV ((wr_id (by omega) (by omega)).trans (by omega))) | exact rfl | (simp only [Int.toNat_natCast, Int.toNat_zero, Nat.sub_zero, Nat.zero_add]; first | exact rfl | done) | exact all0 | exact fun h => Bool.noConfusion h | exact fun _ _ _ _ => rfl | omega)
        intro a ha b hb9
        match b, hb9 with
        | 0, _ =>
          show _ = sL (insN q (l i) j a)
          unfold insN
          by_cases e1 : a = j
          · refine (if_pos (by omega)).trans ?_
            rw [if_neg (show ¬ a < j by omega), if_pos e1]
            rfl
          · refine (if_neg (by omega)).trans ?_
            show sL (shN q i j a) = _
            unfold shN
            by_cases c : a < j
            · rw [if_pos c, if_pos (show a ≤ j by omega), if_pos (show a < i by omega)]
            · rw [if_neg c, if_neg e1, if_neg (show ¬ a ≤ j by omega)]
  · obtain rfl : i = n := by omega
    exact .inr ⟨rfl, q, y2, rfl⟩
theorem alSame (n m : Nat) (x y : Nat → ByteArray) (h : n ≤ 1000000 ∧ m = n ∧ ∀ i, i < n → x i = y i) : Fn1 Try.prog 42 [.c (.sl 1 n (cS x)), .c (.sl 1 m (cS y))] (boolV true) := by
  refine fn_of_wpx (O := lex) tab_ok (Γ := fun _ => none) (fun _ _ h => by cases h) mixed Try.func42 (by kernel_rfl) rfl rfl rfl (by simp [Try.ntmps42]) (by kernel_rfl) ?_
  obtain ⟨hn, rfl, h⟩ := h
  conv => whnf
  repeat' (first
    | (refine NilG.mk fun bn hbn hbx => ?_; conv => whnf)
    | (refine Both.mk ?_ ?_ <;> conv => whnf)
    | exact trivial
    | (refine Br.mk (fun hb => ?_) (fun hb => ?_) <;> (first | (exfalso; revert hb; decide) | ((try simp only [BL] at hb) <;> (try simp only [DL] at hb) <;> conv => whnf)))
    | (refine And.intro ?_ ?_; (focus (first | exact id | exact rfl | exact trivial | (intro hg; first | exact hg | exact rfl | (simp; done) | (simp at hg ⊢; assumption)) | omega | decide | exact is2_c _ _ _ | exact is1_c _ _ | exact isS_c _ _ | exact isB_c _ _ | exact Nat.le_refl _ | assumption | exact mulLe (by decide) (by omega) | exact mulLe2 (by decide) (by omega) (by omega) | (intros; simp only [BL] at *; omega) | (intros; (try simp only [BL] at *); (try simp only [DL] at *); omega) | (intros; simp only [BL] at *; rw [wr_id (by omega) (by omega)]; omega) | (intro h1 h2; exact Bool.and_eq_true_iff.2 ⟨h1, h2⟩) | (intros; simp_all; done))); conv => whnf)
    | (refine Or.inr (And.intro rfl ?_); first | (refine congrArg intV ?_) | (refine congrArg boolV ?_) | (refine tupII ?_ ?_) | (refine tupIII ?_ ?_ ?_) | (refine tupU ?_ ?_ ?_ ?_ ?_) | exact rfl))
  · exact absurd trivial hb
  refine sem_loop tab_ok gamN1_ok mixed (by kernel_rfl) (O := lex) (fun i : Nat => ⟨[(0, .c (.sl 1 m (cS x))), (1, .c (.sl 1 m (cS y))), (12, intV m), (13, intV i)], []⟩) (fun i => i ≤ m) (fun i => m - i) ⟨0, [], Nat.zero_le _, ?_⟩ fun i hi => ?_
  · refine Sub.of ?_ ?_ ?_
    repeat' (first | (refine And.intro ?_ ?_) | exact trivial | exact fun _ _ _ => hsc _ _ | (exact congrArg intV (by first | with_reducible rfl | with_reducible assumption)) | exact (rfl : AV.idsLt _ _ = true) | exact (rfl : _ = AV.ren _ (.own _)) | exact (rfl : _ = AV.ren _ (.fn _ _)) | exact (rfl : _ = AV.ren _ (.gh _)) | (exact congrArg intV (by assumption)) | (refine congrArg intV ((wr_id (by omega) (by omega)).trans (by omega))) | exact rfl | (simp only [Int.toNat_natCast, Int.toNat_zero, Nat.sub_zero, Nat.zero_add]; first | exact rfl | done) | exact all0 | exact fun h => Bool.noConfusion h | exact fun _ _ _ _ => rfl | omega)
  conv => whnf
  repeat' (first
    | (refine NilG.mk fun bn hbn hbx => ?_; conv => whnf)
    | (refine Both.mk ?_ ?_ <;> conv => whnf)
    | exact trivial
    | (refine Br.mk (fun hb => ?_) (fun hb => ?_) <;> (first | (exfalso; revert hb; decide) | ((try simp only [BL] at hb) <;> (try simp only [DL] at hb) <;> conv => whnf)))
    | (refine And.intro ?_ ?_; (focus (first | exact id | exact rfl | exact trivial | (intro hg; first | exact hg | exact rfl | (simp; done) | (simp at hg ⊢; assumption)) | omega | decide | exact is2_c _ _ _ | exact is1_c _ _ | exact isS_c _ _ | exact isB_c _ _ | exact Nat.le_refl _ | assumption | exact mulLe (by decide) (by omega) | exact mulLe2 (by decide) (by omega) (by omega) | (intros; simp only [BL] at *; omega) | (intros; (try simp only [BL] at *); (try simp only [DL] at *); omega) | (intros; simp only [BL] at *; rw [wr_id (by omega) (by omega)]; omega) | (intro h1 h2; exact Bool.and_eq_true_iff.2 ⟨h1, h2⟩) | (intros; simp_all; done))); conv => whnf)
    | (refine Or.inr (And.intro rfl ?_); first | (refine congrArg intV ?_) | (refine congrArg boolV ?_) | (refine tupII ?_ ?_) | (refine tupIII ?_ ?_ ?_) | (refine tupU ?_ ?_ ?_ ?_ ?_) | exact rfl))
  · exact absurd (h i (by omega)) (b_ne.1 hb)
  · refine ⟨i + 1, [], by omega, by omega, ?_⟩
    refine Sub.of ?_ ?_ ?_
    repeat' (first | (refine And.intro ?_ ?_) | exact trivial | exact fun _ _ _ => hsc _ _ | (exact congrArg intV (by first | with_reducible rfl | with_reducible assumption)) | exact (rfl : AV.idsLt _ _ = true) | exact (rfl : _ = AV.ren _ (.own _)) | exact (rfl : _ = AV.ren _ (.fn _ _)) | exact (rfl : _ = AV.ren _ (.gh _)) | (exact congrArg intV (by assumption)) | (refine congrArg intV ((wr_id (by omega) (by omega)).trans (by omega))) | exact rfl | (simp only [Int.toNat_natCast, Int.toNat_zero, Nat.sub_zero, Nat.zero_add]; first | exact rfl | done) | exact all0 | exact fun h => Bool.noConfusion h | exact fun _ _ _ _ => rfl | omega)
  · rfl
theorem alEq (n m : Nat) (x y : Nat → ByteArray) (h : n ≤ 1000000 ∧ m = n ∧ ∀ i, i < n → x i = y i) : Fn1 Try.prog 14 [.c (.sl 1 n (cS x)), .c (.sl 1 m (cS y))] (boolV true) := by
  refine fn_of_wpx (O := lex) tab_ok (Γ := fun _ => none) (fun _ _ h => by cases h) mixed Try.func14 (by kernel_rfl) rfl rfl rfl (by simp [Try.ntmps14]) (by kernel_rfl) ?_
  obtain ⟨hn, rfl, h⟩ := h
  conv => whnf
  repeat' (first
    | (refine NilG.mk fun bn hbn hbx => ?_; conv => whnf)
    | (refine Both.mk ?_ ?_ <;> conv => whnf)
    | exact trivial
    | (refine Br.mk (fun hb => ?_) (fun hb => ?_) <;> (first | (exfalso; revert hb; decide) | ((try simp only [BL] at hb) <;> (try simp only [DL] at hb) <;> conv => whnf)))
    | (refine And.intro ?_ ?_; (focus (first | exact id | exact rfl | exact trivial | (intro hg; first | exact hg | exact rfl | (simp; done) | (simp at hg ⊢; assumption)) | omega | decide | exact is2_c _ _ _ | exact is1_c _ _ | exact isS_c _ _ | exact isB_c _ _ | exact Nat.le_refl _ | assumption | exact mulLe (by decide) (by omega) | exact mulLe2 (by decide) (by omega) (by omega) | (intros; simp only [BL] at *; omega) | (intros; (try simp only [BL] at *); (try simp only [DL] at *); omega) | (intros; simp only [BL] at *; rw [wr_id (by omega) (by omega)]; omega) | (intro h1 h2; exact Bool.and_eq_true_iff.2 ⟨h1, h2⟩) | (intros; simp_all; done))); conv => whnf)
    | (refine Or.inr (And.intro rfl ?_); first | (refine congrArg intV ?_) | (refine congrArg boolV ?_) | (refine tupII ?_ ?_) | (refine tupIII ?_ ?_ ?_) | (refine tupU ?_ ?_ ?_ ?_ ?_) | exact rfl))
  · exact absurd trivial hb
  refine sem_loop tab_ok gamN1_ok mixed (by kernel_rfl) (O := lex) (fun i : Nat => ⟨[(0, .c (.sl 1 m (cS x))), (1, .c (.sl 1 m (cS y))), (12, intV m), (13, intV i)], []⟩) (fun i => i ≤ m) (fun i => m - i) ⟨0, [], Nat.zero_le _, ?_⟩ fun i hi => ?_
  · refine Sub.of ?_ ?_ ?_
    repeat' (first | (refine And.intro ?_ ?_) | exact trivial | exact fun _ _ _ => hsc _ _ | (exact congrArg intV (by first | with_reducible rfl | with_reducible assumption)) | exact (rfl : AV.idsLt _ _ = true) | exact (rfl : _ = AV.ren _ (.own _)) | exact (rfl : _ = AV.ren _ (.fn _ _)) | exact (rfl : _ = AV.ren _ (.gh _)) | (exact congrArg intV (by assumption)) | (refine congrArg intV ((wr_id (by omega) (by omega)).trans (by omega))) | exact rfl | (simp only [Int.toNat_natCast, Int.toNat_zero, Nat.sub_zero, Nat.zero_add]; first | exact rfl | done) | exact all0 | exact fun h => Bool.noConfusion h | exact fun _ _ _ _ => rfl | omega)
  conv => whnf
  repeat' (first
    | (refine NilG.mk fun bn hbn hbx => ?_; conv => whnf)
    | (refine Both.mk ?_ ?_ <;> conv => whnf)
    | exact trivial
    | (refine Br.mk (fun hb => ?_) (fun hb => ?_) <;> (first | (exfalso; revert hb; decide) | ((try simp only [BL] at hb) <;> (try simp only [DL] at hb) <;> conv => whnf)))
    | (refine And.intro ?_ ?_; (focus (first | exact id | exact rfl | exact trivial | (intro hg; first | exact hg | exact rfl | (simp; done) | (simp at hg ⊢; assumption)) | omega | decide | exact is2_c _ _ _ | exact is1_c _ _ | exact isS_c _ _ | exact isB_c _ _ | exact Nat.le_refl _ | assumption | exact mulLe (by decide) (by omega) | exact mulLe2 (by decide) (by omega) (by omega) | (intros; simp only [BL] at *; omega) | (intros; (try simp only [BL] at *); (try simp only [DL] at *); omega) | (intros; simp only [BL] at *; rw [wr_id (by omega) (by omega)]; omega) | (intro h1 h2; exact Bool.and_eq_true_iff.2 ⟨h1, h2⟩) | (intros; simp_all; done))); conv => whnf)
    | (refine Or.inr (And.intro rfl ?_); first | (refine congrArg intV ?_) | (refine congrArg boolV ?_) | (refine tupII ?_ ?_) | (refine tupIII ?_ ?_ ?_) | (refine tupU ?_ ?_ ?_ ?_ ?_) | exact rfl))
  · exact absurd (h i (by omega)) (b_ne.1 hb)
  · refine ⟨i + 1, [], by omega, by omega, ?_⟩
    refine Sub.of ?_ ?_ ?_
    repeat' (first | (refine And.intro ?_ ?_) | exact trivial | exact fun _ _ _ => hsc _ _ | (exact congrArg intV (by first | with_reducible rfl | with_reducible assumption)) | exact (rfl : AV.idsLt _ _ = true) | exact (rfl : _ = AV.ren _ (.own _)) | exact (rfl : _ = AV.ren _ (.fn _ _)) | exact (rfl : _ = AV.ren _ (.gh _)) | (exact congrArg intV (by assumption)) | (refine congrArg intV ((wr_id (by omega) (by omega)).trans (by omega))) | exact rfl | (simp only [Int.toNat_natCast, Int.toNat_zero, Nat.sub_zero, Nat.zero_add]; first | exact rfl | done) | exact all0 | exact fun h => Bool.noConfusion h | exact fun _ _ _ _ => rfl | omega)
  · rfl
end Go.Proofs.Ythbjdcopncebjaa
