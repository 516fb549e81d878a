/-
  Alarms: which alarms are causes.
-/
import Derived.Test.YthbjdcopncebjaaAlB
namespace Go.Proofs.Ythbjdcopncebjaa
open Go.RowKit

/-- the order of names -/
def bl (a b : ByteArray) : Bool := Op.bytesLess a.toList b.toList
theorem bL_irr : ∀ x : List UInt8, Op.bytesLess x x = false
  | [] => rfl
  | a :: x => by
    have h : ¬ a < a := UInt8.lt_irrefl a
    simp [Op.bytesLess, h, bL_irr x]
theorem bL_tri : ∀ {x y : List UInt8}, Op.bytesLess x y = false → x ≠ y → Op.bytesLess y x = true
  | [], [], _, h => absurd rfl h
  | [], _ :: _, h, _ => by simp [Op.bytesLess] at h
  | _ :: _, [], _, _ => rfl
  | a :: x, b :: y, h, hn => by
    simp only [Op.bytesLess, Bool.or_eq_false_iff, decide_eq_false_iff_not, Bool.and_eq_false_iff, beq_eq_false_iff_ne, Bool.or_eq_true, decide_eq_true_eq, Bool.and_eq_true, beq_iff_eq] at h ⊢
    by_cases e : a = b
    · subst e
      refine .inr ⟨rfl, bL_tri (h.2.resolve_left fun h => h rfl) fun e => hn (by rw [e])⟩
    · have h1 := h.1
      exact .inl (UInt8.lt_of_le_of_ne (UInt8.not_lt.1 h1) fun e' => e e'.symm)
theorem bL_trans : ∀ {x y z : List UInt8}, Op.bytesLess x y = true → Op.bytesLess y z = true → Op.bytesLess x z = true
  | [], [], _, h, _ => by simp [Op.bytesLess] at h
  | _ :: _, [], _, h, _ => by simp [Op.bytesLess] at h
  | _, _ :: _, [], _, h => by simp [Op.bytesLess] at h
  | [], _ :: _, _ :: _, _, _ => rfl
  | a :: x, b :: y, c :: z, h, k => by
    simp only [Op.bytesLess, Bool.or_eq_true, decide_eq_true_eq, Bool.and_eq_true, beq_iff_eq] at h k ⊢
    rcases h with h | ⟨rfl, h⟩
    · rcases k with k | ⟨rfl, k⟩
      · exact .inl (UInt8.lt_trans h k)
      · exact .inl h
    · rcases k with k | ⟨rfl, k⟩
      · exact .inl k
      · exact .inr ⟨rfl, bL_trans h k⟩
theorem bl_irr (a : ByteArray) : bl a a = false := bL_irr _
theorem bl_trans {a b c : ByteArray} (h : bl a b = true) (k : bl b c = true) : bl a c = true := bL_trans h k
theorem bl_tri {a b : ByteArray} (h : bl a b = false) (hn : ¬ a = b) : bl b a = true := bL_tri h fun e => hn (b_eq.1 (beq_iff_eq.2 e))
theorem bl_asym {a b : ByteArray} (h : bl a b = true) : bl b a = false := by
  cases h2 : bl b a with
  | false => rfl
  | true =>
    have := bl_trans h h2
    rw [bl_irr] at this
    cases this
abbrev capF (ls : List L) : Nat → L := fun j => (ls[0 + j]?).getD .un
def ordAl : Ord := fun id => if id = 1 then some (.go 0 (.go 1 (.go 2 (.go 3 (.go 6 (.go 4 (.go 5 (.fork (.alt 7 (.go 8 (.go 9 (.go 10 (.go 11 (.go 12 .done))))) (.alt 8 (.go 7 (.go 9 (.go 10 (.go 11 (.go 12 .done))))) .none)))))))))) else none
open Classical in
noncomputable def pthB (C : Css) (l : Nat → ByteArray) (n d : Nat) (a b : ByteArray) : Bool := decide (pth C l n d a b)
theorem has_pth {C : Css} {l : Nat → ByteArray} {n : Nat} {a x : ByteArray} {out : List ByteArray} (h : ∀ b, b ∈ out ↔ pth C l n n a b) : hasB (lY out) out.length x = pthB C l n n a x := by
  rw [Bool.eq_iff_iff, hasY, h]
  unfold pthB
  exact (@decide_eq_true_iff _ (_)).symm
theorem alIc1 (C : Css) (n : Nat) (l : Nat → ByteArray) (a b : ByteArray) (hm : C.m ≤ 40) (hn : n ≤ 24) : Fn1 Try.prog 131 [strV b, .xp 1 (capF [sL a]), .xp 1 (capF [.sl 2 C.m (cCs C)]), .xp 1 (capF [.sl 1 n (cS l)])] (boolV (bl b a || !pthB C l n n b a)) := by
  refine fn_of_wpx (O := ordAl) tab_ok gamAb_ok mixed Try.func131 (by kernel_rfl) rfl rfl rfl (by simp [Try.ntmps131]) (by kernel_rfl) ?_
  conv => whnf
  repeat' (first
    | (refine NilG.mk fun bn hbn hbx => ?_; conv => whnf)
    | (refine Both.mk ?_ ?_ <;> conv => whnf)
    | exact trivial
    | (refine Br.mk (fun hb => ?_) (fun hb => ?_) <;> (first | (exfalso; revert hb; decide) | ((try simp only [BL] at hb) <;> (try simp only [DL] at hb) <;> (first | (exfalso; omega) | (conv => whnf)))))
    | (refine And.intro ?_ ?_; (focus (first | exact id | exact rfl | exact trivial | (intro hg; first | exact hg | exact rfl | (simp; done) | (simp at hg ⊢; assumption)) | omega | decide | exact is2_c _ _ _ | exact is1_c _ _ | exact isS_c _ _ | exact isB_c _ _ | exact Nat.le_refl _ | assumption | exact mulLe (by decide) (by omega) | exact mulLe2 (by decide) (by omega) (by omega) | (intros; simp only [BL] at *; omega) | (intros; (try simp only [BL] at *); (try simp only [DL] at *); omega) | (intros; simp only [BL] at *; rw [wr_id (by omega) (by omega)]; omega) | (intro h1 h2; exact Bool.and_eq_true_iff.2 ⟨h1, h2⟩) | (intros; simp_all; done))); conv => whnf)
    | (refine Or.inr (And.intro rfl ?_); first | (refine congrArg intV ?_) | (refine congrArg boolV ?_) | (refine tupII ?_ ?_) | (refine tupIII ?_ ?_ ?_) | (refine tupU ?_ ?_ ?_ ?_ ?_) | exact rfl))
  iterate 2
    · refine And.intro (fun hg => ?_) (fun hg => ?_)
      · have hg1 : bl b a = false := by
          cases h : bl b a with
          | false => rfl
          | true => rw [show Op.bytesLess b.toList a.toList = true from h] at hg; cases hg
        conv => whnf
        repeat' (first
          | (refine NilG.mk fun bn hbn hbx => ?_; conv => whnf)
          | (refine Both.mk ?_ ?_ <;> conv => whnf)
          | exact trivial
          | (refine Br.mk (fun hb => ?_) (fun hb => ?_) <;> (first | (exfalso; revert hb; decide) | ((try simp only [BL] at hb) <;> (try simp only [DL] at hb) <;> (first | (exfalso; omega) | (conv => whnf)))))
          | (refine And.intro ?_ ?_; (focus (first | exact id | exact rfl | exact trivial | (intro hg; first | exact hg | exact rfl | (simp; done) | (simp at hg ⊢; assumption)) | omega | decide | exact is2_c _ _ _ | exact is1_c _ _ | exact isS_c _ _ | exact isB_c _ _ | exact Nat.le_refl _ | assumption | exact mulLe (by decide) (by omega) | exact mulLe2 (by decide) (by omega) (by omega) | (intros; simp only [BL] at *; omega) | (intros; (try simp only [BL] at *); (try simp only [DL] at *); omega) | (intros; simp only [BL] at *; rw [wr_id (by omega) (by omega)]; omega) | (intro h1 h2; exact Bool.and_eq_true_iff.2 ⟨h1, h2⟩) | (intros; simp_all; done))); conv => whnf)
          | (refine Or.inr (And.intro rfl ?_); first | (refine congrArg intV ?_) | (refine congrArg boolV ?_) | (refine tupII ?_ ?_) | (refine tupIII ?_ ?_ ?_) | (refine tupU ?_ ?_ ?_ ?_ ?_) | exact rfl))
        refine CallG.mk (Fn.mono (alXpl C n l b hm hn) ?_)
        rintro obs r ⟨rfl, out, ho1, ho2, ho3, rfl⟩
        conv => whnf
        repeat' (first
          | (refine NilG.mk fun bn hbn hbx => ?_; conv => whnf)
          | (refine Both.mk ?_ ?_ <;> conv => whnf)
          | exact trivial
          | (refine Br.mk (fun hb => ?_) (fun hb => ?_) <;> (first | (exfalso; revert hb; decide) | ((try simp only [BL] at hb) <;> (try simp only [DL] at hb) <;> (first | (exfalso; omega) | (conv => whnf)))))
          | (refine And.intro ?_ ?_; (focus (first | exact id | exact rfl | exact trivial | (intro hg; first | exact hg | exact rfl | (simp; done) | (simp at hg ⊢; assumption)) | omega | decide | exact is2_c _ _ _ | exact is1_c _ _ | exact isS_c _ _ | exact isB_c _ _ | exact Nat.le_refl _ | assumption | exact mulLe (by decide) (by omega) | exact mulLe2 (by decide) (by omega) (by omega) | (intros; simp only [BL] at *; omega) | (intros; (try simp only [BL] at *); (try simp only [DL] at *); omega) | (intros; simp only [BL] at *; rw [wr_id (by omega) (by omega)]; omega) | (intro h1 h2; exact Bool.and_eq_true_iff.2 ⟨h1, h2⟩) | exact fun _ => ⟨isS_c _ _, by unfold maxLen; omega⟩ | (intros; simp_all; done))); conv => whnf)
          | (refine Or.inr (And.intro rfl ?_); first | (refine congrArg intV ?_) | (refine congrArg boolV ?_) | (refine tupII ?_ ?_) | (refine tupIII ?_ ?_ ?_) | (refine tupU ?_ ?_ ?_ ?_ ?_) | exact rfl))
        show (bl b a || !hasB (lY out) out.length a) = _
        rw [has_pth ho1]
      · have hg1 : bl b a = true := by
          cases h : bl b a with
          | true => rfl
          | false => rw [show Op.bytesLess b.toList a.toList = false from h] at hg; cases hg
        conv => whnf
        repeat' (first
          | (refine NilG.mk fun bn hbn hbx => ?_; conv => whnf)
          | (refine Both.mk ?_ ?_ <;> conv => whnf)
          | exact trivial
          | (refine Br.mk (fun hb => ?_) (fun hb => ?_) <;> (first | (exfalso; revert hb; decide) | ((try simp only [BL] at hb) <;> (try simp only [DL] at hb) <;> (first | (exfalso; omega) | (conv => whnf)))))
          | (refine And.intro ?_ ?_; (focus (first | exact id | exact rfl | exact trivial | (intro hg; first | exact hg | exact rfl | (simp; done) | (simp at hg ⊢; assumption)) | omega | decide | exact is2_c _ _ _ | exact is1_c _ _ | exact isS_c _ _ | exact isB_c _ _ | exact Nat.le_refl _ | assumption | exact mulLe (by decide) (by omega) | exact mulLe2 (by decide) (by omega) (by omega) | (intros; simp only [BL] at *; omega) | (intros; (try simp only [BL] at *); (try simp only [DL] at *); omega) | (intros; simp only [BL] at *; rw [wr_id (by omega) (by omega)]; omega) | (intro h1 h2; exact Bool.and_eq_true_iff.2 ⟨h1, h2⟩) | (intros; simp_all; done))); conv => whnf)
          | (refine Or.inr (And.intro rfl ?_); first | (refine congrArg intV ?_) | (refine congrArg boolV ?_) | (refine tupII ?_ ?_) | (refine tupIII ?_ ?_ ?_) | (refine tupU ?_ ?_ ?_ ?_ ?_) | exact rfl))
        repeat
          refine fun _ => ?_
          conv => whnf
          repeat' (first
            | (refine NilG.mk fun bn hbn hbx => ?_; conv => whnf)
            | (refine Both.mk ?_ ?_ <;> conv => whnf)
            | exact trivial
            | (refine Br.mk (fun hb => ?_) (fun hb => ?_) <;> (first | (exfalso; revert hb; decide) | ((try simp only [BL] at hb) <;> (try simp only [DL] at hb) <;> (first | (exfalso; omega) | (conv => whnf)))))
            | (refine And.intro ?_ ?_; (focus (first | exact id | exact rfl | exact trivial | (intro hg; first | exact hg | exact rfl | (simp; done) | (simp at hg ⊢; assumption)) | omega | decide | exact is2_c _ _ _ | exact is1_c _ _ | exact isS_c _ _ | exact isB_c _ _ | exact Nat.le_refl _ | assumption | exact mulLe (by decide) (by omega) | exact mulLe2 (by decide) (by omega) (by omega) | (intros; simp only [BL] at *; omega) | (intros; (try simp only [BL] at *); (try simp only [DL] at *); omega) | (intros; simp only [BL] at *; rw [wr_id (by omega) (by omega)]; omega) | (intro h1 h2; exact Bool.and_eq_true_iff.2 ⟨h1, h2⟩) | (intros; simp_all; done))); conv => whnf)
            | (refine Or.inr (And.intro rfl ?_); first | (refine congrArg intV ?_) | (refine congrArg boolV ?_) | (refine tupII ?_ ?_) | (refine tupIII ?_ ?_ ?_) | (refine tupU ?_ ?_ ?_ ?_ ?_) | exact rfl))
        rw [hg1]; rfl
theorem alIcI (C : Css) (n : Nat) (l : Nat → ByteArray) (a : ByteArray) (N : Nat) (p : Nat → ByteArray) (hm : C.m ≤ 40) (hn : n ≤ 24) (hN : N ≤ maxLen) : Fn1 Try.prog 86 [.c (.sl 1 N (cS p)), .fn 131 [.xp 1 (capF [sL a]), .xp 1 (capF [.sl 2 C.m (cCs C)]), .xp 1 (capF [.sl 1 n (cS l)])]] (intV (fidx (fun k => bl (p k) a || !pthB C l n n (p k) a) N)) := by
  refine fn_of_wpx (O := lex) tab_ok gamAb_ok mixed Try.func86 (by kernel_rfl) rfl rfl rfl (by simp [Try.ntmps86]) (by kernel_rfl) ?_
  have hn' : N ≤ 9223372036854775807 := hN
  conv => whnf
  repeat' (first
    | (refine NilG.mk fun bn hbn hbx => ?_; conv => whnf)
    | (refine Both.mk ?_ ?_ <;> conv => whnf)
    | exact trivial
    | (refine Br.mk (fun hb => ?_) (fun hb => ?_) <;> (first | (exfalso; revert hb; decide) | ((try simp only [BL] at hb) <;> (try simp only [DL] at hb) <;> (first | (exfalso; omega) | (conv => whnf)))))
    | (refine And.intro ?_ ?_; (focus (first | exact id | exact rfl | exact trivial | (intro hg; first | exact hg | exact rfl | (simp; done) | (simp at hg ⊢; assumption)) | omega | decide | exact is2_c _ _ _ | exact is1_c _ _ | exact isS_c _ _ | exact isB_c _ _ | exact Nat.le_refl _ | assumption | exact mulLe (by decide) (by omega) | exact mulLe2 (by decide) (by omega) (by omega) | (intros; simp only [BL] at *; omega) | (intros; (try simp only [BL] at *); (try simp only [DL] at *); omega) | (intros; simp only [BL] at *; rw [wr_id (by omega) (by omega)]; omega) | (intro h1 h2; exact Bool.and_eq_true_iff.2 ⟨h1, h2⟩) | (intros; simp_all; done))); conv => whnf)
    | (refine Or.inr (And.intro rfl ?_); first | (refine congrArg intV ?_) | (refine congrArg boolV ?_) | (refine tupII ?_ ?_) | (refine tupIII ?_ ?_ ?_) | (refine tupU ?_ ?_ ?_ ?_ ?_) | exact rfl))
  refine sem_loop tab_ok gamAb_ok mixed (by kernel_rfl) (O := lex) (fun i : Nat => ⟨[(0, .c (.sl 1 N (cS p))), (1, .fn 131 [.xp 1 (capF [sL a]), .xp 1 (capF [.sl 2 C.m (cCs C)]), .xp 1 (capF [.sl 1 n (cS l)])]), (7, intV N), (8, intV i)], []⟩) (fun i => i ≤ N ∧ ∀ k, k < i → (bl (p k) a || !pthB C l n n (p k) a) = false) (fun i => N - i) ⟨0, [], ⟨Nat.zero_le _, fun k hk => absurd hk (Nat.not_lt_zero _)⟩, ?_⟩ fun i hi => ?_
  · refine Sub.of ?_ ?_ ?_
    repeat' (first | (refine And.intro ?_ ?_) | exact trivial | exact fun _ _ _ => hsc _ _ | (exact congrArg intV (by first | with_reducible rfl | with_reducible assumption)) | exact (rfl : AV.idsLt _ _ = true) | exact (rfl : _ = AV.ren _ (.own _)) | exact (rfl : _ = AV.ren _ (.fn _ _)) | exact (rfl : _ = AV.ren _ (.gh _)) | (exact congrArg intV (by assumption)) | (refine congrArg intV ((wr_id (by omega) (by omega)).trans (by omega))) | exact rfl | (simp only [Int.toNat_natCast, Int.toNat_zero, Nat.sub_zero, Nat.zero_add]; first | exact rfl | done) | exact all0 | exact fun h => Bool.noConfusion h | exact fun _ _ _ _ => rfl | omega)
  conv => whnf
  repeat' (first
    | (refine NilG.mk fun bn hbn hbx => ?_; conv => whnf)
    | (refine Both.mk ?_ ?_ <;> conv => whnf)
    | exact trivial
    | (refine Br.mk (fun hb => ?_) (fun hb => ?_) <;> (first | (exfalso; revert hb; decide) | ((try simp only [BL] at hb) <;> (try simp only [DL] at hb) <;> (first | (exfalso; omega) | (conv => whnf)))))
    | (refine And.intro ?_ ?_; (focus (first | exact id | exact rfl | exact trivial | (intro hg; first | exact hg | exact rfl | (simp; done) | (simp at hg ⊢; assumption)) | omega | decide | exact is2_c _ _ _ | exact is1_c _ _ | exact isS_c _ _ | exact isB_c _ _ | exact Nat.le_refl _ | assumption | exact mulLe (by decide) (by omega) | exact mulLe2 (by decide) (by omega) (by omega) | (intros; simp only [BL] at *; omega) | (intros; (try simp only [BL] at *); (try simp only [DL] at *); omega) | (intros; simp only [BL] at *; rw [wr_id (by omega) (by omega)]; omega) | (intro h1 h2; exact Bool.and_eq_true_iff.2 ⟨h1, h2⟩) | (intros; simp_all; done))); conv => whnf)
    | (refine Or.inr (And.intro rfl ?_); first | (refine congrArg intV ?_) | (refine congrArg boolV ?_) | (refine tupII ?_ ?_) | (refine tupIII ?_ ?_ ?_) | (refine tupU ?_ ?_ ?_ ?_ ?_) | exact rfl))
  · refine CallG.mk (Fn.mono (alIc1 C n l a (p i) hm hn) ?_)
    rintro obs r ⟨rfl, rfl⟩
    conv => whnf
    repeat' (first
      | (refine NilG.mk fun bn hbn hbx => ?_; conv => whnf)
      | (refine Both.mk ?_ ?_ <;> conv => whnf)
      | exact trivial
      | (refine Br.mk (fun hb => ?_) (fun hb => ?_) <;> (first | (exfalso; revert hb; decide) | ((try simp only [BL] at hb) <;> (try simp only [DL] at hb) <;> (first | (exfalso; omega) | (conv => whnf)))))
      | (refine And.intro ?_ ?_; (focus (first | exact id | exact rfl | exact trivial | (intro hg; first | exact hg | exact rfl | (simp; done) | (simp at hg ⊢; assumption)) | omega | decide | exact is2_c _ _ _ | exact is1_c _ _ | exact isS_c _ _ | exact isB_c _ _ | exact Nat.le_refl _ | assumption | exact mulLe (by decide) (by omega) | exact mulLe2 (by decide) (by omega) (by omega) | (intros; simp only [BL] at *; omega) | (intros; (try simp only [BL] at *); (try simp only [DL] at *); omega) | (intros; simp only [BL] at *; rw [wr_id (by omega) (by omega)]; omega) | (intro h1 h2; exact Bool.and_eq_true_iff.2 ⟨h1, h2⟩) | (intros; simp_all; done))); conv => whnf)
      | (refine Or.inr (And.intro rfl ?_); first | (refine congrArg intV ?_) | (refine congrArg boolV ?_) | (refine tupII ?_ ?_) | (refine tupIII ?_ ?_ ?_) | (refine tupU ?_ ?_ ?_ ?_ ?_) | exact rfl))
    · exact (fidx_at hi.2 (by
        show (bl (p i) a || !pthB C l n n (p i) a) = true
        rcases hb with h | h <;> rw [h] <;> first | rfl | exact Bool.or_true _) (by omega)).symm
    · have h1 : (bl (p i) a || !pthB C l n n (p i) a) = false := by rw [hb.1, hb.2]; rfl
      refine ⟨i + 1, [], ⟨by omega, fun k hk => by rcases Nat.lt_succ_iff_lt_or_eq.1 hk with h | rfl <;> first | exact hi.2 k h | exact h1⟩, by omega, ?_⟩
      refine Sub.of ?_ ?_ ?_
      repeat' (first | (refine And.intro ?_ ?_) | exact trivial | exact fun _ _ _ => hsc _ _ | (exact congrArg intV (by first | with_reducible rfl | with_reducible assumption)) | exact (rfl : AV.idsLt _ _ = true) | exact (rfl : _ = AV.ren _ (.own _)) | exact (rfl : _ = AV.ren _ (.fn _ _)) | exact (rfl : _ = AV.ren _ (.gh _)) | (exact congrArg intV (by assumption)) | (refine congrArg intV ((wr_id (by omega) (by omega)).trans (by omega))) | exact rfl | (simp only [Int.toNat_natCast, Int.toNat_zero, Nat.sub_zero, Nat.zero_add]; first | exact rfl | done) | exact all0 | exact fun h => Bool.noConfusion h | exact fun _ _ _ _ => rfl | omega)
  · obtain rfl : i = N := by omega
    exact (fidx_none hi.2).symm
theorem alIcC (C : Css) (n : Nat) (l : Nat → ByteArray) (a : ByteArray) (N : Nat) (p : Nat → ByteArray) (hm : C.m ≤ 40) (hn : n ≤ 24) (hN : N ≤ maxLen) : Fn1 Try.prog 48 [.c (.sl 1 N (cS p)), .fn 131 [.xp 1 (capF [sL a]), .xp 1 (capF [.sl 2 C.m (cCs C)]), .xp 1 (capF [.sl 1 n (cS l)])]] (boolV (decide (fidx (fun k => bl (p k) a || !pthB C l n n (p k) a) N ≥ 0))) := by
  refine fn_of_wpx (O := lex) tab_ok gamAb_ok mixed Try.func48 (by kernel_rfl) rfl rfl rfl (by simp [Try.ntmps48]) (by kernel_rfl) ?_
  conv => whnf
  repeat' (first
    | (refine NilG.mk fun bn hbn hbx => ?_; conv => whnf)
    | (refine Both.mk ?_ ?_ <;> conv => whnf)
    | exact trivial
    | (refine Br.mk (fun hb => ?_) (fun hb => ?_) <;> (first | (exfalso; revert hb; decide) | ((try simp only [BL] at hb) <;> (try simp only [DL] at hb) <;> (first | (exfalso; omega) | (conv => whnf)))))
    | (refine And.intro ?_ ?_; (focus (first | exact id | exact rfl | exact trivial | (intro hg; first | exact hg | exact rfl | (simp; done) | (simp at hg ⊢; assumption)) | omega | decide | exact is2_c _ _ _ | exact is1_c _ _ | exact isS_c _ _ | exact isB_c _ _ | exact Nat.le_refl _ | assumption | exact mulLe (by decide) (by omega) | exact mulLe2 (by decide) (by omega) (by omega) | (intros; simp only [BL] at *; omega) | (intros; (try simp only [BL] at *); (try simp only [DL] at *); omega) | (intros; simp only [BL] at *; rw [wr_id (by omega) (by omega)]; omega) | (intro h1 h2; exact Bool.and_eq_true_iff.2 ⟨h1, h2⟩) | (intros; simp_all; done))); conv => whnf)
    | (refine Or.inr (And.intro rfl ?_); first | (refine congrArg intV ?_) | (refine congrArg boolV ?_) | (refine tupII ?_ ?_) | (refine tupIII ?_ ?_ ?_) | (refine tupU ?_ ?_ ?_ ?_ ?_) | exact rfl))
  refine CallG.mk (Fn.mono (alIcI C n l a N p hm hn hN) ?_)
  rintro obs r ⟨rfl, rfl⟩
  conv => whnf
  repeat' (first
    | (refine NilG.mk fun bn hbn hbx => ?_; conv => whnf)
    | (refine Both.mk ?_ ?_ <;> conv => whnf)
    | exact trivial
    | (refine Br.mk (fun hb => ?_) (fun hb => ?_) <;> (first | (exfalso; revert hb; decide) | ((try simp only [BL] at hb) <;> (try simp only [DL] at hb) <;> (first | (exfalso; omega) | (conv => whnf)))))
    | (refine And.intro ?_ ?_; (focus (first | exact id | exact rfl | exact trivial | (intro hg; first | exact hg | exact rfl | (simp; done) | (simp at hg ⊢; assumption)) | omega | decide | exact is2_c _ _ _ | exact is1_c _ _ | exact isS_c _ _ | exact isB_c _ _ | exact Nat.le_refl _ | assumption | exact mulLe (by decide) (by omega) | exact mulLe2 (by decide) (by omega) (by omega) | (intros; simp only [BL] at *; omega) | (intros; (try simp only [BL] at *); (try simp only [DL] at *); omega) | (intros; simp only [BL] at *; rw [wr_id (by omega) (by omega)]; omega) | (intro h1 h2; exact Bool.and_eq_true_iff.2 ⟨h1, h2⟩) | (intros; simp_all; done))); conv => whnf)
    | (refine Or.inr (And.intro rfl ?_); first | (refine congrArg intV ?_) | (refine congrArg boolV ?_) | (refine tupII ?_ ?_) | (refine tupIII ?_ ?_ ?_) | (refine tupU ?_ ?_ ?_ ?_ ?_) | exact rfl))
  · rfl
open Classical in
noncomputable def cauB (C : Css) (l : Nat → ByteArray) (n : Nat) (a : ByteArray) : Bool := decide (∀ k, k < n → pth C l n n a (l k) → bl (l k) a = false ∧ pth C l n n (l k) a)
theorem cau_of {C : Css} {l : Nat → ByteArray} {n : Nat} {a : ByteArray} {out : List ByteArray} (h : ∀ b, b ∈ out ↔ pth C l n n a b) (h2 : ∀ b, b ∈ out → hasB l n b = true) : (!decide (fidx (fun k => bl (lY out k) a || !pthB C l n n (lY out k) a) out.length ≥ 0)) = cauB C l n a := by
  have hat : ∀ k, k < out.length → lY out k ∈ out := fun k hk => by
    unfold lY; rw [List.getElem?_eq_getElem hk]; exact List.getElem_mem hk
  have hpB : ∀ x y, pthB C l n n x y = true ↔ pth C l n n x y := fun x y => by unfold pthB; exact @decide_eq_true_iff _ (_)
  rw [Bool.eq_iff_iff]
  unfold cauB
  rw [Bool.not_eq_true', decide_eq_false_iff_not]
  refine Iff.trans ?_ (@decide_eq_true_iff _ (_)).symm
  constructor
  · intro hf k hk hp
    have hm := (h _).2 hp
    obtain ⟨j, hj, e⟩ := List.getElem_of_mem hm
    have h3 := fidx_neg hf j hj
    have ej : lY out j = l k := by unfold lY; rw [List.getElem?_eq_getElem hj]; exact e
    have h3 : (bl (lY out j) a || !pthB C l n n (lY out j) a) = false := h3
    rw [ej, Bool.or_eq_false_iff, Bool.not_eq_false'] at h3
    exact ⟨h3.1, (hpB _ _).1 h3.2⟩
  · intro hf hc
    have : ∀ k, k < out.length → (fun k => bl (lY out k) a || !pthB C l n n (lY out k) a) k = false := fun k hk => by
      have hm := hat k hk
      obtain ⟨j, hj, e⟩ := has_iff.1 (h2 _ hm)
      have h3 := hf j hj (by rw [e]; exact (h _).1 hm)
      rw [e] at h3
      show (bl (lY out k) a || !pthB C l n n (lY out k) a) = false
      rw [h3.1, (hpB _ _).2 h3.2]
      rfl
    rw [fidx_none this] at hc
    exact absurd hc (by decide)
theorem alIsC (C : Css) (n : Nat) (l : Nat → ByteArray) (a : ByteArray) (hm : C.m ≤ 40) (hn : n ≤ 24) : Fn1 Try.prog 115 [.c (.sl 2 C.m (cCs C)), .c (.sl 1 n (cS l)), strV a] (boolV (cauB C l n a)) := by
  refine fn_of_wpx (O := lex) tab_ok gamAb_ok mixed Try.func115 (by kernel_rfl) rfl rfl rfl (by simp [Try.ntmps115]) (by kernel_rfl) ?_
  conv => whnf
  repeat' (first
    | (refine NilG.mk fun bn hbn hbx => ?_; conv => whnf)
    | (refine Both.mk ?_ ?_ <;> conv => whnf)
    | exact trivial
    | (refine Br.mk (fun hb => ?_) (fun hb => ?_) <;> (first | (exfalso; revert hb; decide) | ((try simp only [BL] at hb) <;> (try simp only [DL] at hb) <;> (first | (exfalso; omega) | (conv => whnf)))))
    | (refine And.intro ?_ ?_; (focus (first | exact id | exact rfl | exact trivial | (intro hg; first | exact hg | exact rfl | (simp; done) | (simp at hg ⊢; assumption)) | omega | decide | exact is2_c _ _ _ | exact is1_c _ _ | exact isS_c _ _ | exact isB_c _ _ | exact Nat.le_refl _ | assumption | exact mulLe (by decide) (by omega) | exact mulLe2 (by decide) (by omega) (by omega) | (intros; simp only [BL] at *; omega) | (intros; (try simp only [BL] at *); (try simp only [DL] at *); omega) | (intros; simp only [BL] at *; rw [wr_id (by omega) (by omega)]; omega) | (intro h1 h2; exact Bool.and_eq_true_iff.2 ⟨h1, h2⟩) | (intros; simp_all; done))); conv => whnf)
    | (refine Or.inr (And.intro rfl ?_); first | (refine congrArg intV ?_) | (refine congrArg boolV ?_) | (refine tupII ?_ ?_) | (refine tupIII ?_ ?_ ?_) | (refine tupU ?_ ?_ ?_ ?_ ?_) | exact rfl))
  refine CallG.mk (Fn.mono (alXpl C n l a hm hn) ?_)
  rintro obs r ⟨rfl, out, ho1, ho2, ho3, rfl⟩
  conv => whnf
  repeat' (first
    | (refine NilG.mk fun bn hbn hbx => ?_; conv => whnf)
    | (refine Both.mk ?_ ?_ <;> conv => whnf)
    | exact trivial
    | (refine Br.mk (fun hb => ?_) (fun hb => ?_) <;> (first | (exfalso; revert hb; decide) | ((try simp only [BL] at hb) <;> (try simp only [DL] at hb) <;> (first | (exfalso; omega) | (conv => whnf)))))
    | (refine And.intro ?_ ?_; (focus (first | exact id | exact rfl | exact trivial | (intro hg; first | exact hg | exact rfl | (simp; done) | (simp at hg ⊢; assumption)) | omega | decide | exact is2_c _ _ _ | exact is1_c _ _ | exact isS_c _ _ | exact isB_c _ _ | exact Nat.le_refl _ | assumption | exact mulLe (by decide) (by omega) | exact mulLe2 (by decide) (by omega) (by omega) | (intros; simp only [BL] at *; omega) | (intros; (try simp only [BL] at *); (try simp only [DL] at *); omega) | (intros; simp only [BL] at *; rw [wr_id (by omega) (by omega)]; omega) | (intro h1 h2; exact Bool.and_eq_true_iff.2 ⟨h1, h2⟩) | (intros; simp_all; done))); conv => whnf)
    | (refine Or.inr (And.intro rfl ?_); first | (refine congrArg intV ?_) | (refine congrArg boolV ?_) | (refine tupII ?_ ?_) | (refine tupIII ?_ ?_ ?_) | (refine tupU ?_ ?_ ?_ ?_ ?_) | exact rfl))
  refine CallG.mk (Fn.mono (alIcC C n l a out.length (lY out) hm hn (by unfold maxLen; omega)) ?_)
  rintro obs r ⟨rfl, rfl⟩
  conv => whnf
  repeat' (first
    | (refine NilG.mk fun bn hbn hbx => ?_; conv => whnf)
    | (refine Both.mk ?_ ?_ <;> conv => whnf)
    | exact trivial
    | (refine Br.mk (fun hb => ?_) (fun hb => ?_) <;> (first | (exfalso; revert hb; decide) | ((try simp only [BL] at hb) <;> (try simp only [DL] at hb) <;> (first | (exfalso; omega) | (conv => whnf)))))
    | (refine And.intro ?_ ?_; (focus (first | exact id | exact rfl | exact trivial | (intro hg; first | exact hg | exact rfl | (simp; done) | (simp at hg ⊢; assumption)) | omega | decide | exact is2_c _ _ _ | exact is1_c _ _ | exact isS_c _ _ | exact isB_c _ _ | exact Nat.le_refl _ | assumption | exact mulLe (by decide) (by omega) | exact mulLe2 (by decide) (by omega) (by omega) | (intros; simp only [BL] at *; omega) | (intros; (try simp only [BL] at *); (try simp only [DL] at *); omega) | (intros; simp only [BL] at *; rw [wr_id (by omega) (by omega)]; omega) | (intro h1 h2; exact Bool.and_eq_true_iff.2 ⟨h1, h2⟩) | (intros; simp_all; done))); conv => whnf)
    | (refine Or.inr (And.intro rfl ?_); first | (refine congrArg intV ?_) | (refine congrArg boolV ?_) | (refine tupII ?_ ?_) | (refine tupIII ?_ ?_ ?_) | (refine tupU ?_ ?_ ?_ ?_ ?_) | exact rfl))
  all_goals exact cau_of ho1 ho2
open Classical in
/-- the reference's search -/
noncomputable def xplB (C : Css) (l : Nat → ByteArray) (n d : Nat) (a b : ByteArray) : Bool := decide (xpl C l n d a b)
theorem xplB_iff {C : Css} {l : Nat → ByteArray} {n d : Nat} {a b : ByteArray} : xplB C l n d a b = true ↔ xpl C l n d a b := by unfold xplB; exact @decide_eq_true_iff _ (_)
theorem xplB_ff {C : Css} {l : Nat → ByteArray} {n d : Nat} {a b : ByteArray} : xplB C l n d a b = false ↔ ¬ xpl C l n d a b := by rw [← xplB_iff, Bool.not_eq_true]
theorem alEx (C : Css) (n : Nat) (l : Nat → ByteArray) (b : ByteArray) (hm : C.m ≤ 1000) (hn : n ≤ 1000) : ∀ (d : Nat), d ≤ 1000 → ∀ a, Fn1 Try.prog 41 [.c (.sl 2 C.m (cCs C)), .c (.sl 1 n (cS l)), strV a, strV b, intV d] (boolV (xplB C l n d a b)) := by
  intro d
  induction d with
  | zero =>
    intro _ a
    refine fn_of_wpx (O := lex) tab_ok gamAb_ok mixed Try.func41 (by kernel_rfl) rfl rfl rfl (by simp [Try.ntmps41]) (by kernel_rfl) ?_
    conv => whnf
    repeat' (first
      | (refine NilG.mk fun bn hbn hbx => ?_; conv => whnf)
      | (refine Both.mk ?_ ?_ <;> conv => whnf)
      | exact trivial
      | (refine Br.mk (fun hb => ?_) (fun hb => ?_) <;> (first | (exfalso; revert hb; decide) | ((try simp only [BL] at hb) <;> (try simp only [DL] at hb) <;> (first | (exfalso; omega) | (conv => whnf)))))
      | (refine And.intro ?_ ?_; (focus (first | exact id | exact rfl | exact trivial | (intro hg; first | exact hg | exact rfl | (simp; done) | (simp at hg ⊢; assumption)) | omega | decide | exact is2_c _ _ _ | exact is1_c _ _ | exact isS_c _ _ | exact isB_c _ _ | exact Nat.le_refl _ | assumption | exact mulLe (by decide) (by omega) | exact mulLe2 (by decide) (by omega) (by omega) | (intros; simp only [BL] at *; omega) | (intros; (try simp only [BL] at *); (try simp only [DL] at *); omega) | (intros; simp only [BL] at *; rw [wr_id (by omega) (by omega)]; omega) | (intro h1 h2; exact Bool.and_eq_true_iff.2 ⟨h1, h2⟩) | (intros; simp_all; done))); conv => whnf)
      | (refine Or.inr (And.intro rfl ?_); first | (refine congrArg intV ?_) | (refine congrArg boolV ?_) | (refine tupII ?_ ?_) | (refine tupIII ?_ ?_ ?_) | (refine tupU ?_ ?_ ?_ ?_ ?_) | exact rfl))
    · exact (xplB_iff.2 (show xpl C l n 0 a b from b_eq.1 hb)).symm
    · rename_i h1
      exact (xplB_ff.2 (show ¬ xpl C l n 0 a b from b_ne.1 h1)).symm
  | succ d ih =>
    intro hd a
    refine fn_of_wpx (O := lex) tab_ok gamAb_ok mixed Try.func41 (by kernel_rfl) rfl rfl rfl (by simp [Try.ntmps41]) (by kernel_rfl) ?_
    have hd0 : ((d + 1 : Nat) : Int) ≠ 0 := by omega
    conv => whnf
    repeat' (first
      | (refine NilG.mk fun bn hbn hbx => ?_; conv => whnf)
      | (refine Both.mk ?_ ?_ <;> conv => whnf)
      | exact trivial
      | (refine Br.mk (fun hb => ?_) (fun hb => ?_) <;> (first | (exfalso; revert hb; decide) | ((try simp only [BL] at hb) <;> (try simp only [DL] at hb) <;> (first | (exfalso; omega) | (conv => whnf)))))
      | (refine And.intro ?_ ?_; (focus (first | exact id | exact rfl | exact trivial | (intro hg; first | exact hg | exact rfl | (simp; done) | (simp at hg ⊢; assumption)) | omega | decide | exact is2_c _ _ _ | exact is1_c _ _ | exact isS_c _ _ | exact isB_c _ _ | exact Nat.le_refl _ | assumption | exact mulLe (by decide) (by omega) | exact mulLe2 (by decide) (by omega) (by omega) | (intros; simp only [BL] at *; omega) | (intros; (try simp only [BL] at *); (try simp only [DL] at *); omega) | (intros; simp only [BL] at *; rw [wr_id (by omega) (by omega)]; omega) | (intro h1 h2; exact Bool.and_eq_true_iff.2 ⟨h1, h2⟩) | (intros; simp_all; done))); conv => whnf)
      | (refine Or.inr (And.intro rfl ?_); first | (refine congrArg intV ?_) | (refine congrArg boolV ?_) | (refine tupII ?_ ?_) | (refine tupIII ?_ ?_ ?_) | (refine tupU ?_ ?_ ?_ ?_ ?_) | exact rfl))
    · exact (xplB_iff.2 (show xpl C l n (d + 1) a b from Or.inl (b_eq.1 hb))).symm
    rename_i h1
    have hab := b_ne.1 h1
    refine sem_loop tab_ok gamAb_ok mixed (by kernel_rfl) (O := lex) (fun j : Nat => ⟨[(0, .c (.sl 2 C.m (cCs C))), (1, .c (.sl 1 n (cS l))), (2, strV a), (3, strV b), (4, intV ((d + 1 : Nat) : Int)), (18, .c (.sl 2 C.m (cCs C))), (19, intV C.m), (20, intV j)], []⟩) (fun j => j ≤ C.m ∧ ∀ k, k < j → ¬ (edg C l n a k ∧ xpl C l n d (C.by_ k) b)) (fun j => C.m - j) ⟨0, [], ⟨Nat.zero_le _, fun k hk => absurd hk (Nat.not_lt_zero _)⟩, ?_⟩ fun j hj => ?_
    · refine Sub.of ?_ ?_ ?_
      repeat' (first | (refine And.intro ?_ ?_) | exact trivial | exact fun _ _ _ => hsc _ _ | (exact congrArg intV (by first | with_reducible rfl | with_reducible assumption)) | exact (rfl : AV.idsLt _ _ = true) | exact (rfl : _ = AV.ren _ (.own _)) | exact (rfl : _ = AV.ren _ (.fn _ _)) | exact (rfl : _ = AV.ren _ (.gh _)) | (exact congrArg intV (by assumption)) | (refine congrArg intV ((wr_id (by omega) (by omega)).trans (by omega))) | exact rfl | (simp only [Int.toNat_natCast, Int.toNat_zero, Nat.sub_zero, Nat.zero_add]; first | exact rfl | done) | exact all0 | exact fun h => Bool.noConfusion h | exact fun _ _ _ _ => rfl | omega)
    have hj1 := hj.1
    have e1 : IntKind.i64.wrap (((d + 1 : Nat) : Int) - 1) = d := (wr_id (by omega) (by omega)).trans (by omega)
    have hnm : n ≤ maxLen := by unfold maxLen; omega
    conv => whnf
    repeat' (first
      | (refine NilG.mk fun bn hbn hbx => ?_; conv => whnf)
      | (refine Both.mk ?_ ?_ <;> conv => whnf)
      | exact trivial
      | (refine Br.mk (fun hb => ?_) (fun hb => ?_) <;> (first | (exfalso; revert hb; decide) | ((try simp only [BL] at hb) <;> (try simp only [DL] at hb) <;> (first | (exfalso; omega) | (conv => whnf)))))
      | (refine And.intro ?_ ?_; (focus (first | exact id | exact rfl | exact trivial | (intro hg; first | exact hg | exact rfl | (simp; done) | (simp at hg ⊢; assumption)) | omega | decide | exact is2_c _ _ _ | exact is1_c _ _ | exact isS_c _ _ | exact isB_c _ _ | exact Nat.le_refl _ | assumption | exact mulLe (by decide) (by omega) | exact mulLe2 (by decide) (by omega) (by omega) | (intros; simp only [BL] at *; omega) | (intros; (try simp only [BL] at *); (try simp only [DL] at *); omega) | (intros; simp only [BL] at *; rw [wr_id (by omega) (by omega)]; omega) | (intro h1 h2; exact Bool.and_eq_true_iff.2 ⟨h1, h2⟩) | first | exact ⟨rfl, by omega, by decide⟩ | exact fun _ => ⟨isS_c _ _, hnm⟩ | (intros; simp_all; done))); conv => whnf)
      | (refine Or.inr (And.intro rfl ?_); first | (refine congrArg intV ?_) | (refine congrArg boolV ?_) | (refine tupII ?_ ?_) | (refine tupIII ?_ ?_ ?_) | (refine tupU ?_ ?_ ?_ ?_ ?_) | exact rfl))
    · refine And.intro (fun hg => ?_) (fun hg => ?_)
      · have hg2 := hg
        rw [Bool.and_eq_true] at hg2
        have he : edg C l n a j := ⟨by omega, b_eq.1 hg2.1, hg2.2⟩
        conv => whnf
        repeat' (first
          | (refine NilG.mk fun bn hbn hbx => ?_; conv => whnf)
          | (refine Both.mk ?_ ?_ <;> conv => whnf)
          | exact trivial
          | (refine Br.mk (fun hb => ?_) (fun hb => ?_) <;> (first | (exfalso; revert hb; decide) | ((try simp only [BL] at hb) <;> (try simp only [DL] at hb) <;> (first | (exfalso; omega) | (conv => whnf)))))
          | (refine And.intro ?_ ?_; (focus (first | exact id | exact rfl | exact trivial | (intro hg; first | exact hg | exact rfl | (simp; done) | (simp at hg ⊢; assumption)) | omega | decide | exact is2_c _ _ _ | exact is1_c _ _ | exact isS_c _ _ | exact isB_c _ _ | exact Nat.le_refl _ | assumption | exact mulLe (by decide) (by omega) | exact mulLe2 (by decide) (by omega) (by omega) | (intros; simp only [BL] at *; omega) | (intros; (try simp only [BL] at *); (try simp only [DL] at *); omega) | (intros; simp only [BL] at *; rw [wr_id (by omega) (by omega)]; omega) | (intro h1 h2; exact Bool.and_eq_true_iff.2 ⟨h1, h2⟩) | (intros; simp_all; done))); conv => whnf)
          | (refine Or.inr (And.intro rfl ?_); first | (refine congrArg intV ?_) | (refine congrArg boolV ?_) | (refine tupII ?_ ?_) | (refine tupIII ?_ ?_ ?_) | (refine tupU ?_ ?_ ?_ ?_ ?_) | exact rfl))
        rw [e1]
        refine CallG.mk (Fn.mono (ih (by omega) (C.by_ j)) ?_)
        rintro obs r ⟨rfl, rfl⟩
        conv => whnf
        repeat' (first
          | (refine NilG.mk fun bn hbn hbx => ?_; conv => whnf)
          | (refine Both.mk ?_ ?_ <;> conv => whnf)
          | exact trivial
          | (refine Br.mk (fun hb => ?_) (fun hb => ?_) <;> (first | (exfalso; revert hb; decide) | ((try simp only [BL] at hb) <;> (try simp only [DL] at hb) <;> (first | (exfalso; omega) | (conv => whnf)))))
          | (refine And.intro ?_ ?_; (focus (first | exact id | exact rfl | exact trivial | (intro hg; first | exact hg | exact rfl | (simp; done) | (simp at hg ⊢; assumption)) | omega | decide | exact is2_c _ _ _ | exact is1_c _ _ | exact isS_c _ _ | exact isB_c _ _ | exact Nat.le_refl _ | assumption | exact mulLe (by decide) (by omega) | exact mulLe2 (by decide) (by omega) (by omega) | (intros; simp only [BL] at *; omega) | (intros; (try simp only [BL] at *); (try simp only [DL] at *); omega) | (intros; simp only [BL] at *; rw [wr_id (by omega) (by omega)]; omega) | (intro h1 h2; exact Bool.and_eq_true_iff.2 ⟨h1, h2⟩) | (intros; simp_all; done))); conv => whnf)
          | (refine Or.inr (And.intro rfl ?_); first | (refine congrArg intV ?_) | (refine congrArg boolV ?_) | (refine tupII ?_ ?_) | (refine tupIII ?_ ?_ ?_) | (refine tupU ?_ ?_ ?_ ?_ ?_) | exact rfl))
        · exact (xplB_iff.2 (show xpl C l n (d + 1) a b from Or.inr ⟨j, he, xplB_iff.1 hb.2⟩)).symm
        · have hno : ¬ xpl C l n d (C.by_ j) b := by
            rcases hb with (h | h) | h
            · exact absurd he.2.1 (b_ne.1 h)
            · exact absurd (of_decide_eq_true he.2.2) h
            · exact xplB_ff.1 h
          refine ⟨j + 1, [], ⟨by omega, fun k hk => by
                    rcases Nat.lt_succ_iff_lt_or_eq.1 hk with h | rfl
                    · exact hj.2 k h
                    · exact fun h => hno h.2⟩, by omega, ?_⟩
          refine Sub.of ?_ ?_ ?_
          repeat' (first | (refine And.intro ?_ ?_) | exact trivial | exact fun _ _ _ => hsc _ _ | (exact congrArg intV (by first | with_reducible rfl | with_reducible assumption)) | exact (rfl : AV.idsLt _ _ = true) | exact (rfl : _ = AV.ren _ (.own _)) | exact (rfl : _ = AV.ren _ (.fn _ _)) | exact (rfl : _ = AV.ren _ (.gh _)) | (exact congrArg intV (by assumption)) | (refine congrArg intV ((wr_id (by omega) (by omega)).trans (by omega))) | exact rfl | (simp only [Int.toNat_natCast, Int.toNat_zero, Nat.sub_zero, Nat.zero_add]; first | exact rfl | done) | exact all0 | exact fun h => Bool.noConfusion h | exact fun _ _ _ _ => rfl | omega)
      · have he : ¬ edg C l n a j := fun he => by
          have h2 : ((C.of j).toList == a.toList && decide (fidx (sameN l (C.by_ j)) n ≥ 0)) = true := by
            rw [Bool.and_eq_true]; exact ⟨b_eq.2 he.2.1, he.2.2⟩
          have h3 : ((C.of j).toList == a.toList && decide (fidx (sameN l (C.by_ j)) n ≥ 0)) = false := hg
          rw [h2] at h3; cases h3
        conv => whnf
        repeat' (first
          | (refine NilG.mk fun bn hbn hbx => ?_; conv => whnf)
          | (refine Both.mk ?_ ?_ <;> conv => whnf)
          | exact trivial
          | (refine Br.mk (fun hb => ?_) (fun hb => ?_) <;> (first | (exfalso; revert hb; decide) | ((try simp only [BL] at hb) <;> (try simp only [DL] at hb) <;> (first | (exfalso; omega) | (conv => whnf)))))
          | (refine And.intro ?_ ?_; (focus (first | exact id | exact rfl | exact trivial | (intro hg; first | exact hg | exact rfl | (simp; done) | (simp at hg ⊢; assumption)) | omega | decide | exact is2_c _ _ _ | exact is1_c _ _ | exact isS_c _ _ | exact isB_c _ _ | exact Nat.le_refl _ | assumption | exact mulLe (by decide) (by omega) | exact mulLe2 (by decide) (by omega) (by omega) | (intros; simp only [BL] at *; omega) | (intros; (try simp only [BL] at *); (try simp only [DL] at *); omega) | (intros; simp only [BL] at *; rw [wr_id (by omega) (by omega)]; omega) | (intro h1 h2; exact Bool.and_eq_true_iff.2 ⟨h1, h2⟩) | (intros; simp_all; done))); conv => whnf)
          | (refine Or.inr (And.intro rfl ?_); first | (refine congrArg intV ?_) | (refine congrArg boolV ?_) | (refine tupII ?_ ?_) | (refine tupIII ?_ ?_ ?_) | (refine tupU ?_ ?_ ?_ ?_ ?_) | exact rfl))
        refine ⟨j + 1, [], ⟨by omega, fun k hk => by
                rcases Nat.lt_succ_iff_lt_or_eq.1 hk with h | rfl
                · exact hj.2 k h
                · exact fun h => he h.1⟩, by omega, ?_⟩
        refine Sub.of ?_ ?_ ?_
        repeat' (first | (refine And.intro ?_ ?_) | exact trivial | exact fun _ _ _ => hsc _ _ | (exact congrArg intV (by first | with_reducible rfl | with_reducible assumption)) | exact (rfl : AV.idsLt _ _ = true) | exact (rfl : _ = AV.ren _ (.own _)) | exact (rfl : _ = AV.ren _ (.fn _ _)) | exact (rfl : _ = AV.ren _ (.gh _)) | (exact congrArg intV (by assumption)) | (refine congrArg intV ((wr_id (by omega) (by omega)).trans (by omega))) | exact rfl | (simp only [Int.toNat_natCast, Int.toNat_zero, Nat.sub_zero, Nat.zero_add]; first | exact rfl | done) | exact all0 | exact fun h => Bool.noConfusion h | exact fun _ _ _ _ => rfl | omega)
    · obtain rfl : j = C.m := by omega
      refine (xplB_ff.2 fun h => ?_).symm
      rcases h with h | ⟨k, k1, k2⟩
      · exact hab h
      · exact hj.2 k k1.1 ⟨k1, k2⟩
noncomputable def sXpl : List AV → Sd × AV
  | [.c (.sl 2 m f), .c (.sl 1 n g), .c (.v (.string a)), .c (.v (.string b)), .c (.v (.int .i64 d))] => (.p (isC2 m f ∧ isS n g ∧ m ≤ 1000 ∧ n ≤ 1000 ∧ 0 ≤ d ∧ d ≤ 1000), boolV (xplB (cssF f m) (dS g) n d.toNat a b))
  | _ => (.p False, .top)
noncomputable def gamAc : Gam := fun f => match f with
  | 41 => some sXpl
  | _ => gamAb f
theorem gamAc_ok : GOk Try.prog gamAc := fun f g h => by
  unfold gamAc at h
  split at h
  · injection h with h; subst h
    intro args hs _
    unfold sXpl at hs ⊢
    split at hs
    · rename_i m f n g a b d _
      obtain ⟨h1, h2, h3, h4, h5, h6⟩ := hs
      obtain ⟨d, rfl⟩ : ∃ d' : Nat, d = (d' : Int) := ⟨d.toNat, by omega⟩
      exact (alEx (cssF f m) n (dS g) b h3 h4 d (by omega) a).le (Le.cons (Le1.sl h1) (Le.cons (Le1.sl h2) (Le.cons (Le1.refl _) (Le.cons (Le1.refl _) (Le.cons (Le1.refl _) Le.nil)))))
    · exact hs.elim
  · exact gamAb_ok _ _ h
theorem xpl_pth {C : Css} {l : Nat → ByteArray} {n : Nat} {a b : ByteArray} (hn : 0 < n) (h : ¬ a = b) : xpl C l n n a b ↔ pth C l n n a b := by
  obtain ⟨d, rfl⟩ : ∃ d, n = d + 1 := ⟨n - 1, by omega⟩
  constructor
  · rintro (h1 | h1)
    · exact absurd h1 h
    · exact h1
  · exact fun h1 => .inr h1
theorem cau_eq {C : Css} {l : Nat → ByteArray} {n k : Nat} {a : ByteArray} (hk : k < n) : (xpl C l n n a (l k) ∧ (¬ xpl C l n n (l k) a ∨ bl (l k) a = true)) ↔ ¬ (pth C l n n a (l k) → bl (l k) a = false ∧ pth C l n n (l k) a) := by
  by_cases h : a = l k
  · rw [← h, bl_irr]
    constructor
    · rintro ⟨_, h1 | h1⟩
      · exact absurd (xpl_refl _ _) h1
      · cases h1
    · exact fun h1 => absurd (fun h2 => ⟨rfl, h2⟩) h1
  · rw [xpl_pth (by omega) h, xpl_pth (by omega) (fun e => h e.symm)]
    constructor
    · rintro ⟨h1, h2⟩ h3
      have h4 := h3 h1
      rcases h2 with h2 | h2
      · exact h2 h4.2
      · rw [h4.1] at h2; cases h2
    · intro h1
      refine Decidable.byContradiction (dec := Classical.propDecidable _) fun h2 => h1 fun h3 => ?_
      refine ⟨?_, ?_⟩
      · cases h4 : bl (l k) a with
        | false => rfl
        | true => exact absurd ⟨h3, .inr h4⟩ h2
      · exact Classical.byContradiction fun h4 => h2 ⟨h3, .inl h4⟩
theorem al_cc {C : Css} {l : Nat → ByteArray} {n k : Nat} {a : ByteArray} (h : xplB C l n n a (l k) = true ∧ (xplB C l n n (l k) a = false ∨ bl (l k) a = true)) : xpl C l n n a (l k) ∧ (¬ xpl C l n n (l k) a ∨ bl (l k) a = true) := ⟨xplB_iff.1 h.1, h.2.imp xplB_ff.1 id⟩
theorem al_cn {C : Css} {l : Nat → ByteArray} {n k : Nat} {a : ByteArray} (h : xplB C l n n a (l k) = false ∨ xplB C l n n (l k) a = true ∧ bl (l k) a = false) : ¬ (xpl C l n n a (l k) ∧ (¬ xpl C l n n (l k) a ∨ bl (l k) a = true)) := by
  rintro ⟨h1, h2⟩
  rcases h with h | h
  · exact xplB_ff.1 h h1
  · rcases h2 with h2 | h2
    · exact h2 (xplB_iff.1 h.1)
    · rw [h.2] at h2; cases h2
theorem alCau (C : Css) (n : Nat) (l : Nat → ByteArray) (a : ByteArray) (hm : C.m ≤ 1000) (hn : n ≤ 1000) : Fn1 Try.prog 40 [.c (.sl 2 C.m (cCs C)), .c (.sl 1 n (cS l)), strV a] (boolV (cauB C l n a)) := by
  refine fn_of_wpx (O := lex) tab_ok gamAc_ok mixed Try.func40 (by kernel_rfl) rfl rfl rfl (by simp [Try.ntmps40]) (by kernel_rfl) ?_
  conv => whnf
  repeat' (first
    | (refine NilG.mk fun bn hbn hbx => ?_; conv => whnf)
    | (refine Both.mk ?_ ?_ <;> conv => whnf)
    | exact trivial
    | (refine Br.mk (fun hb => ?_) (fun hb => ?_) <;> (first | (exfalso; revert hb; decide) | ((try simp only [BL] at hb) <;> (try simp only [DL] at hb) <;> (first | (exfalso; omega) | (conv => whnf)))))
    | (refine And.intro ?_ ?_; (focus (first | exact id | exact rfl | exact trivial | (intro hg; first | exact hg | exact rfl | (simp; done) | (simp at hg ⊢; assumption)) | omega | decide | exact is2_c _ _ _ | exact is1_c _ _ | exact isS_c _ _ | exact isB_c _ _ | exact Nat.le_refl _ | assumption | exact mulLe (by decide) (by omega) | exact mulLe2 (by decide) (by omega) (by omega) | (intros; simp only [BL] at *; omega) | (intros; (try simp only [BL] at *); (try simp only [DL] at *); omega) | (intros; simp only [BL] at *; rw [wr_id (by omega) (by omega)]; omega) | (intro h1 h2; exact Bool.and_eq_true_iff.2 ⟨h1, h2⟩) | (intros; simp_all; done))); conv => whnf)
    | (refine Or.inr (And.intro rfl ?_); first | (refine congrArg intV ?_) | (refine congrArg boolV ?_) | (refine tupII ?_ ?_) | (refine tupIII ?_ ?_ ?_) | (refine tupU ?_ ?_ ?_ ?_ ?_) | exact rfl))
  refine sem_loop tab_ok gamAc_ok mixed (by kernel_rfl) (O := lex) (fun i : Nat => ⟨[(0, .c (.sl 2 C.m (cCs C))), (1, .c (.sl 1 n (cS l))), (2, strV a), (9, .c (.sl 1 n (cS l))), (10, intV n), (11, intV i)], []⟩) (fun i => i ≤ n ∧ ∀ k, k < i → ¬ (xpl C l n n a (l k) ∧ (¬ xpl C l n n (l k) a ∨ bl (l k) a = true))) (fun i => n - i) ⟨0, [], ⟨Nat.zero_le _, fun k hk => absurd hk (Nat.not_lt_zero _)⟩, ?_⟩ fun i hi => ?_
  · refine Sub.of ?_ ?_ ?_
    repeat' (first | (refine And.intro ?_ ?_) | exact trivial | exact fun _ _ _ => hsc _ _ | (exact congrArg intV (by first | with_reducible rfl | with_reducible assumption)) | exact (rfl : AV.idsLt _ _ = true) | exact (rfl : _ = AV.ren _ (.own _)) | exact (rfl : _ = AV.ren _ (.fn _ _)) | exact (rfl : _ = AV.ren _ (.gh _)) | (exact congrArg intV (by assumption)) | (refine congrArg intV ((wr_id (by omega) (by omega)).trans (by omega))) | exact rfl | (simp only [Int.toNat_natCast, Int.toNat_zero, Nat.sub_zero, Nat.zero_add]; first | exact rfl | done) | exact all0 | exact fun h => Bool.noConfusion h | exact fun _ _ _ _ => rfl | omega)
  have hC2 : isC2 C.m (cCs C) := fun _ _ j hj => match j, hj with | 0, _ => rfl | 1, _ => rfl
  conv => whnf
  repeat' (first
    | (refine NilG.mk fun bn hbn hbx => ?_; conv => whnf)
    | (refine Both.mk ?_ ?_ <;> conv => whnf)
    | exact trivial
    | (refine Br.mk (fun hb => ?_) (fun hb => ?_) <;> (first | (exfalso; revert hb; decide) | ((try simp only [BL] at hb) <;> (try simp only [DL] at hb) <;> (first | (exfalso; omega) | (conv => whnf)))))
    | (refine And.intro ?_ ?_; (focus (first | exact id | exact rfl | exact trivial | (intro hg; first | exact hg | exact rfl | (simp; done) | (simp at hg ⊢; assumption)) | omega | decide | exact is2_c _ _ _ | exact is1_c _ _ | exact isS_c _ _ | exact isB_c _ _ | exact Nat.le_refl _ | assumption | exact mulLe (by decide) (by omega) | exact mulLe2 (by decide) (by omega) (by omega) | (intros; simp only [BL] at *; omega) | (intros; (try simp only [BL] at *); (try simp only [DL] at *); omega) | (intros; simp only [BL] at *; rw [wr_id (by omega) (by omega)]; omega) | (intro h1 h2; exact Bool.and_eq_true_iff.2 ⟨h1, h2⟩) | first | exact ⟨hC2, isS_c _ _, hm, hn, by omega, by omega⟩ | exact fun _ => ⟨hC2, isS_c _ _, hm, hn, by omega, by omega⟩ | (intros; simp_all; done))); conv => whnf)
    | (refine Or.inr (And.intro rfl ?_); first | (refine congrArg intV ?_) | (refine congrArg boolV ?_) | (refine tupII ?_ ?_) | (refine tupIII ?_ ?_ ?_) | (refine tupU ?_ ?_ ?_ ?_ ?_) | exact rfl))
  · have h2 : ¬ cauB C l n a = true := fun h => by
      unfold cauB at h
      have h := (@decide_eq_true_iff _ (_)).1 h
      exact (cau_eq (k := i) (by omega)).1 (al_cc hb) (h i (by omega))
    exact (Bool.eq_false_iff.2 h2).symm
  · have h1 := al_cn hb
    refine ⟨i + 1, [], ⟨by omega, fun k hk => by rcases Nat.lt_succ_iff_lt_or_eq.1 hk with h | rfl <;> first | exact hi.2 k h | exact h1⟩, by omega, ?_⟩
    refine Sub.of ?_ ?_ ?_
    repeat' (first | (refine And.intro ?_ ?_) | exact trivial | exact fun _ _ _ => hsc _ _ | (exact congrArg intV (by first | with_reducible rfl | with_reducible assumption)) | exact (rfl : AV.idsLt _ _ = true) | exact (rfl : _ = AV.ren _ (.own _)) | exact (rfl : _ = AV.ren _ (.fn _ _)) | exact (rfl : _ = AV.ren _ (.gh _)) | (exact congrArg intV (by assumption)) | (refine congrArg intV ((wr_id (by omega) (by omega)).trans (by omega))) | exact rfl | (simp only [Int.toNat_natCast, Int.toNat_zero, Nat.sub_zero, Nat.zero_add]; first | exact rfl | done) | exact all0 | exact fun h => Bool.noConfusion h | exact fun _ _ _ _ => rfl | omega)
  · obtain rfl : i = n := by omega
    unfold cauB
    exact ((@decide_eq_true_iff _ (_)).2 fun k hk => Classical.byContradiction fun h => hi.2 k hk ((cau_eq hk).2 h)).symm
end Go.Proofs.Ythbjdcopncebjaa
