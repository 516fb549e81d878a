/-
  Ledger texts: names put into a sorted list.
-/
import Derived.Test.YtjfnhehjhicnoaaDoorLtC
namespace Go.Proofs.YtjfnhehjhicnoaaDoor
open Go.RowKit

theorem b_eq {a b : ByteArray} : (a.toList == b.toList) = true ↔ a = b := by
  rw [beq_iff_eq, ByteArray.toList_eq, ByteArray.toList_eq]
  constructor
  · intro h; exact ByteArray.ext (Array.toList_inj.1 h)
  · intro h; rw [h]
/-- the order of names -/
def bl (a b : ByteArray) : Bool := Op.bytesLess a.toList b.toList
theorem bL_irr : ∀ x : List UInt8, Op.bytesLess x x = false
  | [] => rfl
  | a :: x => by
    have h : ¬ a < a := UInt8.lt_irrefl a
    simp [Op.bytesLess, h, bL_irr x]
theorem bL_tri : ∀ {x y : List UInt8}, Op.bytesLess x y = false → x ≠ y → Op.bytesLess y x = true
  | [], [], _, h => absurd rfl h
  | [], _ :: _, h, _ => by simp [Op.bytesLess] at h
  | _ :: _, [], _, _ => rfl
  | a :: x, b :: y, h, hn => by
    simp only [Op.bytesLess, Bool.or_eq_false_iff, decide_eq_false_iff_not, Bool.and_eq_false_iff, beq_eq_false_iff_ne, Bool.or_eq_true, decide_eq_true_eq, Bool.and_eq_true, beq_iff_eq] at h ⊢
    by_cases e : a = b
    · subst e
      refine .inr ⟨rfl, bL_tri (h.2.resolve_left fun h => h rfl) fun e => hn (by rw [e])⟩
    · have h1 := h.1
      exact .inl (UInt8.lt_of_le_of_ne (UInt8.not_lt.1 h1) fun e' => e e'.symm)
theorem bL_trans : ∀ {x y z : List UInt8}, Op.bytesLess x y = true → Op.bytesLess y z = true → Op.bytesLess x z = true
  | [], [], _, h, _ => by simp [Op.bytesLess] at h
  | _ :: _, [], _, h, _ => by simp [Op.bytesLess] at h
  | _, _ :: _, [], _, h => by simp [Op.bytesLess] at h
  | [], _ :: _, _ :: _, _, _ => rfl
  | a :: x, b :: y, c :: z, h, k => by
    simp only [Op.bytesLess, Bool.or_eq_true, decide_eq_true_eq, Bool.and_eq_true, beq_iff_eq] at h k ⊢
    rcases h with h | ⟨rfl, h⟩
    · rcases k with k | ⟨rfl, k⟩
      · exact .inl (UInt8.lt_trans h k)
      · exact .inl h
    · rcases k with k | ⟨rfl, k⟩
      · exact .inl k
      · exact .inr ⟨rfl, bL_trans h k⟩
theorem bl_irr (a : ByteArray) : bl a a = false := bL_irr _
theorem bl_trans {a b c : ByteArray} (h : bl a b = true) (k : bl b c = true) : bl a c = true := bL_trans h k
theorem bl_tri {a b : ByteArray} (h : bl a b = false) (hn : ¬ a = b) : bl b a = true := bL_tri h fun e => hn (b_eq.1 (beq_iff_eq.2 e))
theorem bl_asym {a b : ByteArray} (h : bl a b = true) : bl b a = false := by
  cases h2 : bl b a with
  | false => rfl
  | true =>
    have := bl_trans h h2
    rw [bl_irr] at this
    cases this
/-- a list of names as a row -/
def lS (l : List ByteArray) : Nat → ByteArray := fun k => l.getD k ByteArray.empty
abbrev lsR (l : List ByteArray) : OB := .row 9 1 l.length false (cS (lS l))
theorem lS_app (l l' : List ByteArray) (k : Nat) : lS (l ++ l') k = if k < l.length then lS l k else lS l' (k - l.length) := by
  unfold lS
  rw [List.getD_eq_getElem?_getD, List.getD_eq_getElem?_getD, List.getD_eq_getElem?_getD]
  by_cases h : k < l.length
  · rw [if_pos h, List.getElem?_append_left h]
  · rw [if_neg h, List.getElem?_append_right (by omega)]
/-- one element behind a row -/
theorem apN {l : List ByteArray} {z : ByteArray} : ∀ a, a < l.length + 1 → ∀ b, b < 1 → (if a < l.length then cS (lS l) a b else (([sL z] : List L)[(a - l.length) * 1 + b]?).getD (.v undef)) = cS (lS (l ++ [z])) a b := fun a ha b hb => by
  match b, hb with
  | 0, _ =>
    show _ = sL (lS (l ++ [z]) a)
    rw [lS_app]
    by_cases e : a < l.length
    · rw [if_pos e, if_pos e]; rfl
    · obtain rfl : a = l.length := by omega
      rw [if_neg e, if_neg e, Nat.sub_self]
      rfl
theorem apN2 {l : List ByteArray} {z y : ByteArray} : ∀ a, a < l.length + 1 + 1 → ∀ b, b < 1 → (if a < l.length + 1 then (if a < l.length then cS (lS l) a b else (([sL z] : List L)[(a - l.length) * 1 + b]?).getD (.v undef)) else (([sL y] : List L)[(a - (l.length + 1)) * 1 + b]?).getD (.v undef)) = cS (lS (l ++ [z] ++ [y])) a b := fun a ha b hb => by
  have hlen : (l ++ [z]).length = l.length + 1 := by simp
  have h2 := apN (l := l ++ [z]) (z := y) a (by omega) b hb
  rw [hlen] at h2
  by_cases c : a < l.length + 1
  · rw [if_pos c] at h2 ⊢
    exact (apN a c b hb).trans h2
  · rw [if_neg c] at h2 ⊢
    exact h2
/-- what Put has written after k names, and whether the new one stands there -/
def ptF (p : Nat → ByteArray) (z : ByteArray) : Nat → List ByteArray × Bool
  | 0 => ([], false)
  | k + 1 => if (ptF p z k).2 = false ∧ (bl z (p k) || z.toList == (p k).toList) = true then ((if bl z (p k) = true then (ptF p z k).1 ++ [z] else (ptF p z k).1) ++ [p k], true) else ((ptF p z k).1 ++ [p k], (ptF p z k).2)
def ptL (n : Nat) (p : Nat → ByteArray) (z : ByteArray) : List ByteArray := if (ptF p z n).2 = false then (ptF p z n).1 ++ [z] else (ptF p z n).1
theorem ptF_len {p : Nat → ByteArray} {z : ByteArray} : ∀ {k : Nat}, (ptF p z k).1.length ≤ 2 * k
  | 0 => Nat.le_refl _
  | k + 1 => by
    have h := ptF_len (p := p) (z := z) (k := k)
    simp only [ptF]
    split
    · split <;> simp only [List.length_append, List.length_singleton] <;> omega
    · simp only [List.length_append, List.length_singleton]; omega
set_option maxHeartbeats 8000000 in
theorem ltPut (n : Nat) (p : Nat → ByteArray) (z : ByteArray) (hn : n ≤ 100000) : Fn Tryd.prog 53 [.c (.sl 1 n (cS p)), strV z] (fun obs r => obs = [lsR (ptL n p z)] ∧ r = .own 0) := by
  refine fn_of_wpx (O := lex) tab_ok gamN1_ok mixed Tryd.func53 (by kernel_rfl) rfl rfl rfl (by simp [Tryd.ntmps53]) (by kernel_rfl) ?_
  conv => whnf
  repeat' (first
    | (refine NilG.mk fun bn hbn hbx => ?_; conv => whnf)
    | (refine Both.mk ?_ ?_ <;> conv => whnf)
    | ((first | (refine MkG.box 1 rfl rfl rfl (by decide) ?_) | (refine MkG.box 2 rfl rfl rfl (by decide) ?_) | (refine MkG.box 3 rfl rfl rfl (by decide) ?_) | (refine MkG.row ?_)); conv => whnf)
    | (refine LitG.row ?_; conv => whnf)
    | exact trivial
    | (refine Br.mk (fun hb => ?_) (fun hb => ?_) <;> (first | (exfalso; revert hb; decide) | ((try simp only [BL] at hb) <;> (try simp only [DL] at hb) <;> (first | (exfalso; omega) | (conv => whnf)))))
    | (refine And.intro ?_ ?_; (focus (first | exact id | exact rfl | exact trivial | (intro hg; first | exact hg | exact rfl | (simp; done) | (simp at hg ⊢; assumption)) | omega | decide | exact is2_c _ _ _ | exact is1_c _ _ | exact isS_c _ _ | exact isB_c _ _ | exact Nat.le_refl _ | assumption | exact mulLe (by decide) (by omega) | exact mulLe2 (by decide) (by omega) (by omega) | (intros; simp only [BL] at *; omega) | (intros; (try simp only [BL] at *); (try simp only [DL] at *); omega) | (intros; simp only [BL] at *; rw [wr_id (by omega) (by omega)]; omega) | (intro h1 h2; exact Bool.and_eq_true_iff.2 ⟨h1, h2⟩) | (intros; simp_all; done))); conv => whnf)
    | (refine Or.inr (And.intro rfl ?_); first | (refine congrArg intV ?_) | (refine congrArg boolV ?_) | (refine tupII ?_ ?_) | (refine tupIII ?_ ?_ ?_) | (refine tupU ?_ ?_ ?_ ?_ ?_) | exact rfl))
  refine LoopG.nil 5 9 1 rfl ?_
  refine sem_loop tab_ok gamN1_ok mixed (by kernel_rfl) (O := lex) (fun k : Nat => ⟨[(1, strV z), (5, .own 0), (6, boolV (ptF p z k).2), (9, .c (.sl 1 n (cS p))), (10, intV n), (11, intV k)], [lsR (ptF p z k).1]⟩) (fun k => k ≤ n) (fun k => n - k) ⟨0, [?_], Nat.zero_le _, ?_⟩ fun k hk => ?_
  rotate_left 1
  · refine Sub.of ?_ ?_ ?_
    repeat' (first | (refine And.intro ?_ ?_) | exact trivial | exact fun _ _ _ => hsc _ _ | (exact congrArg intV (by first | with_reducible rfl | with_reducible assumption)) | exact (rfl : AV.idsLt _ _ = true) | exact (rfl : _ = AV.ren _ (.own _)) | exact (rfl : _ = AV.ren _ (.fn _ _)) | exact (rfl : _ = AV.ren _ (.gh _)) | (exact congrArg intV (by assumption)) | (refine congrArg intV ((wr_id (by omega) (by omega)).trans (by omega))) | exact rfl | (simp only [NLc]; first | exact rfl | done) | exact all0 | exact fun h => Bool.noConfusion h | exact fun _ _ _ _ => rfl | omega)
  have hl := ptF_len (p := p) (z := z) (k := k)
  conv => whnf
  repeat' (first
    | (refine NilG.mk fun bn hbn hbx => ?_; conv => whnf)
    | (refine Both.mk ?_ ?_ <;> conv => whnf)
    | ((first | (refine MkG.box 1 rfl rfl rfl (by decide) ?_) | (refine MkG.box 2 rfl rfl rfl (by decide) ?_) | (refine MkG.box 3 rfl rfl rfl (by decide) ?_) | (refine MkG.row ?_)); conv => whnf)
    | (refine LitG.row ?_; conv => whnf)
    | exact trivial
    | (refine Br.mk (fun hb => ?_) (fun hb => ?_) <;> (first | (exfalso; revert hb; decide) | ((try simp only [BL] at hb) <;> (try simp only [DL] at hb) <;> (first | (exfalso; omega) | (conv => whnf)))))
    | (refine And.intro ?_ ?_; (focus (first | exact id | exact rfl | exact trivial | (intro hg; first | exact hg | exact rfl | (simp; done) | (simp at hg ⊢; assumption)) | omega | decide | exact is2_c _ _ _ | exact is1_c _ _ | exact isS_c _ _ | exact isB_c _ _ | exact Nat.le_refl _ | assumption | exact mulLe (by decide) (by omega) | exact mulLe2 (by decide) (by omega) (by omega) | (intros; simp only [BL] at *; omega) | (intros; (try simp only [BL] at *); (try simp only [DL] at *); omega) | (intros; simp only [BL] at *; rw [wr_id (by omega) (by omega)]; omega) | (intro h1 h2; exact Bool.and_eq_true_iff.2 ⟨h1, h2⟩) | (intros; simp_all; done))); conv => whnf)
    | (refine Or.inr (And.intro rfl ?_); first | (refine congrArg intV ?_) | (refine congrArg boolV ?_) | (refine tupII ?_ ?_) | (refine tupIII ?_ ?_ ?_) | (refine tupU ?_ ?_ ?_ ?_ ?_) | exact rfl))
  · rename_i hb2 hb3
    have hF : ptF p z (k + 1) = ((ptF p z k).1 ++ [z] ++ [p k], true) := (if_pos ⟨hb3.1, by rw [Bool.or_eq_true]; exact hb3.2⟩).trans (by rw [if_pos (show bl z (p k) = true from hb)])
    refine ⟨k + 1, [?_], by omega, by omega, ?_⟩
    rotate_left 1
    refine Sub.of ?_ ?_ ?_
    repeat' (first | (refine And.intro ?_ ?_) | exact trivial | exact fun _ _ _ => hsc _ _ | (exact congrArg intV (by first | with_reducible rfl | with_reducible assumption)) | exact (rfl : AV.idsLt _ _ = true) | exact (rfl : _ = AV.ren _ (.own _)) | exact (rfl : _ = AV.ren _ (.fn _ _)) | exact (rfl : _ = AV.ren _ (.gh _)) | (exact congrArg intV (by assumption)) | (refine congrArg intV ((wr_id (by omega) (by omega)).trans (by omega))) | exact rfl | (simp only [NLc]; first | exact rfl | done) | exact all0 | exact fun h => Bool.noConfusion h | exact fun _ _ _ _ => rfl | omega)
    · exact (congrArg (fun x : List ByteArray × Bool => boolV x.2) hF.symm : _)
    · rw [hF]; simp
    · rw [hF]
      exact fun a ha b hb => apN2 a ha b hb
  · rename_i hb2 hb3
    have hF : ptF p z (k + 1) = ((ptF p z k).1 ++ [p k], true) := (if_pos ⟨hb3.1, by rw [Bool.or_eq_true]; exact hb3.2⟩).trans (by rw [if_neg (by rw [show bl z (p k) = false from hb]; decide)])
    refine ⟨k + 1, [?_], by omega, by omega, ?_⟩
    rotate_left 1
    refine Sub.of ?_ ?_ ?_
    repeat' (first | (refine And.intro ?_ ?_) | exact trivial | exact fun _ _ _ => hsc _ _ | (exact congrArg intV (by first | with_reducible rfl | with_reducible assumption)) | exact (rfl : AV.idsLt _ _ = true) | exact (rfl : _ = AV.ren _ (.own _)) | exact (rfl : _ = AV.ren _ (.fn _ _)) | exact (rfl : _ = AV.ren _ (.gh _)) | (exact congrArg intV (by assumption)) | (refine congrArg intV ((wr_id (by omega) (by omega)).trans (by omega))) | exact rfl | (simp only [NLc]; first | exact rfl | done) | exact all0 | exact fun h => Bool.noConfusion h | exact fun _ _ _ _ => rfl | omega)
    · exact (congrArg (fun x : List ByteArray × Bool => boolV x.2) hF.symm : _)
    · rw [hF]; simp
    · rw [hF]
      exact fun a ha b hb => apN a ha b hb
  · have hF : ptF p z (k + 1) = ((ptF p z k).1 ++ [p k], (ptF p z k).2) := if_neg fun h => by
      rcases hb with h1 | ⟨h1, h2⟩
      · rw [h1] at h; exact absurd h.1 (by decide)
      · have h3 := h.2
        rw [Bool.or_eq_true] at h3
        rcases h3 with h3 | h3
        · rw [show bl z (p k) = false from h1] at h3; cases h3
        · rw [h2] at h3; cases h3
    refine ⟨k + 1, [?_], by omega, by omega, ?_⟩
    rotate_left 1
    refine Sub.of ?_ ?_ ?_
    repeat' (first | (refine And.intro ?_ ?_) | exact trivial | exact fun _ _ _ => hsc _ _ | (exact congrArg intV (by first | with_reducible rfl | with_reducible assumption)) | exact (rfl : AV.idsLt _ _ = true) | exact (rfl : _ = AV.ren _ (.own _)) | exact (rfl : _ = AV.ren _ (.fn _ _)) | exact (rfl : _ = AV.ren _ (.gh _)) | (exact congrArg intV (by assumption)) | (refine congrArg intV ((wr_id (by omega) (by omega)).trans (by omega))) | exact rfl | (simp only [NLc]; first | exact rfl | done) | exact all0 | exact fun h => Bool.noConfusion h | exact fun _ _ _ _ => rfl | omega)
    · exact (congrArg (fun x : List ByteArray × Bool => boolV x.2) hF.symm : _)
    · rw [hF]; simp
    · rw [hF]
      exact fun a ha b hb => apN a ha b hb
  · obtain rfl : k = n := by omega
    have hP : ptL k p z = (ptF p z k).1 ++ [z] := if_pos (by assumption)
    refine .inl ⟨[2], [lsR (ptL k p z)], .own 0, rfl, ?_, rfl, rfl, rfl, rfl⟩
    rw [hP]
    repeat' (first | (refine And.intro ?_ ?_) | exact trivial | exact rfl | exact fun h => Bool.noConfusion h)
    · simp
    · exact fun a ha b hb => apN a ha b hb
  · obtain rfl : k = n := by omega
    have hP : ptL k p z = (ptF p z k).1 := if_neg (by rename_i hq; rw [hq]; decide)
    refine .inl ⟨[0], [lsR (ptL k p z)], .own 0, rfl, ?_, rfl, rfl, rfl, rfl⟩
    rw [hP]
    repeat' (first | (refine And.intro ?_ ?_) | exact trivial | exact rfl | exact fun h => Bool.noConfusion h | exact fun _ _ _ _ => rfl)
end Go.Proofs.YtjfnhehjhicnoaaDoor
