/-
  The package commit: serve, Serve.
-/
import Derived.Test.YtemfikdogdadnaaComP
import Derived.Test.YtemfikdogdadnaaSrt5Com
namespace Go.Proofs.Ytemfikdogdadnaa
open Go.RowKit

def gamC2 : Gam := fun f => match f with
  | 68 => some (sOi (fun s n _ _ _ => s.size ≤ maxLen ∧ n ≤ maxLen) fun s n p q x => .tup [intV (if offXE s n p q x = 0 then S (ct p q x) n else 0), intV (offXE s n p q x)])
  | _ => none
theorem gamC2_ok : GOk Try.prog gamC2 := fun f g h => by
  unfold gamC2 at h
  split at h
  · injection h with h; subst h; exact sOi_ok fun s n p q x hp => offCost s n p q x hp.1 hp.2
  · cases h
theorem cmCmp0 (x y u x' y' u' : Int) (h1 : -1000000 ≤ u ∧ u ≤ 1000000) (h2 : -1000000 ≤ u' ∧ u' ≤ 1000000) : Fn1 Try.prog 92 [.agg [intV x, intV y, intV u], .agg [intV x', intV y', intV u']] (intV (u - u')) := by
  refine fn_of_wpx (O := lex) tab_ok (Γ := fun _ => none) (fun _ _ h => by cases h) mixed Try.func92 (by kernel_rfl) rfl rfl rfl (by simp [Try.ntmps92]) (by kernel_rfl) ?_
  conv => whnf
  repeat' (first
    | (refine NilG.mk fun bn hbn hbx => ?_; conv => whnf)
    | (refine Both.mk ?_ ?_ <;> conv => whnf)
    | ((first | (refine MkG.box 1 rfl rfl rfl (by decide) ?_) | (refine MkG.box 2 rfl rfl rfl (by decide) ?_) | (refine MkG.box 3 rfl rfl rfl (by decide) ?_) | (refine MkG.row ?_)); conv => whnf)
    | exact trivial
    | (refine Br.mk (fun hb => ?_) (fun hb => ?_) <;> (first | (exfalso; revert hb; decide) | ((try simp only [BL] at hb) <;> (try simp only [DL] at hb) <;> conv => whnf)))
    | (refine And.intro ?_ ?_; (focus (first | exact id | exact rfl | exact trivial | (intro hg; first | exact hg | exact rfl | (simp; done) | (simp at hg ⊢; assumption)) | omega | decide | exact is2_c _ _ _ | exact is1_c _ _ | exact isS_c _ _ | exact isB_c _ _ | exact Nat.le_refl _ | assumption | exact mulLe (by decide) (by omega) | exact mulLe2 (by decide) (by omega) (by omega) | (intros; simp only [BL] at *; omega) | (intros; (try simp only [BL] at *); (try simp only [DL] at *); omega) | (intros; simp only [BL] at *; rw [wr_id (by omega) (by omega)]; omega) | (intro h1 h2; exact Bool.and_eq_true_iff.2 ⟨h1, h2⟩) | (intros; simp_all; done))); conv => whnf)
    | (refine Or.inr (And.intro rfl ?_); first | (refine congrArg intV ?_) | (refine congrArg boolV ?_) | (refine tupII ?_ ?_) | (refine tupIII ?_ ?_ ?_) | (refine tupU ?_ ?_ ?_ ?_ ?_) | exact rfl))
  · exact wr_id (by omega) (by omega)
/-- the blocks, column by column -/
def cbC (u : Nat → CuR) (o : Nat → Bool) (n : Nat) : Nat → Nat → L := colCom (fun e => own (cM u o) n e) (bSz (cM u o) (cP u o) n) (bSz (cM u o) (cQ u o) n)
theorem cmCmp {u : Nat → CuR} {o : Nat → Bool} {n : Nat} (hv : ∀ k, k < n → cuE (u k) = 0) : CmpCom 92 (cbC u o n) (bSz (cM u o) (cQ u o) n) (oN (cM u o) n) :=
  ⟨fun i j hi hj => ⟨_, cmCmp0 _ _ _ _ _ _ ⟨(cbQ hv hi).1, (cbQ hv hi).2.1⟩ ⟨(cbQ hv hj).1, (cbQ hv hj).2.1⟩, by omega⟩⟩
/-- what serve returns -/
def svK (u : Nat → CuR) (o : Nat → Bool) (n : Nat) (T : Int) (obs : List OB) (v : AV) : Prop :=
  obs = [] ∧ ((T < S (cLo u o) n ∧ v = .tup [.c (.v (.slice none 0 0)), intV 0, boolV false]) ∨
    (S (cLo u o) n ≤ T ∧ ∃ π, Sorted (bSz (cM u o) (cQ u o) n) π (oN (cM u o) n) ∧
      v = .tup [.c (.sl 1 n (c1 fun k => if o k then cLo u o k + bX (cM u o) (cP u o) n π (T - S (cLo u o) n) k (oN (cM u o) n) else -1)),
        intV (S (cC u (cLo u o)) n + S (fun b => bTk (cM u o) (cP u o) n π (T - S (cLo u o) n) b * bSz (cM u o) (cQ u o) n (π b)) (oN (cM u o) n)), boolV (decide (T - S (cLo u o) n ≤ S (cR u o) n))]))
set_option maxHeartbeats 1000000 in
theorem cmServe (u : Nat → CuR) (o : Nat → Bool) (n : Nat) (T : Int) (hn : n ≤ 3) (hT : 0 ≤ T ∧ T ≤ 1000000) (hv : ∀ k, k < n → cuE (u k) = 0) (hz : ∀ k, k < n → cuZ (u k)) :
    Fn Try.prog 57 [.c (.sl 13 n (cCu u)), .c (.sl 1 n (cB o)), intV T] (svK u o n T) := by
  refine fn_of_wpx (O := lex) tab_ok gamC2_ok mixed Try.func57 (by kernel_rfl) rfl rfl rfl (by simp [Try.ntmps57]) (by kernel_rfl) ?_
  have hsc := scCom (fun e => own (cM u o) n e) (bSz (cM u o) (cP u o) n) (bSz (cM u o) (cQ u o) n)
  have e0 : T = T - S (cLo u o) 0 := (Int.sub_zero T).symm
  conv => whnf
  repeat' (first
    | (refine NilG.mk fun bn hbn hbx => ?_; conv => whnf)
    | (refine Both.mk ?_ ?_ <;> conv => whnf)
    | ((first | (refine MkG.box 1 rfl rfl rfl (by decide) ?_) | (refine MkG.box 2 rfl rfl rfl (by decide) ?_) | (refine MkG.box 3 rfl rfl rfl (by decide) ?_) | (refine MkG.row ?_)); conv => whnf)
    | exact trivial
    | (refine Br.mk (fun hb => ?_) (fun hb => ?_) <;> (first | (exfalso; revert hb; decide) | ((try simp only [BL] at hb) <;> (try simp only [DL] at hb) <;> conv => whnf)))
    | (refine And.intro ?_ ?_; (focus (first | exact id | exact rfl | exact trivial | (intro hg; first | exact hg | exact rfl | (simp; done) | (simp at hg ⊢; assumption)) | omega | decide | exact is2_c _ _ _ | exact is1_c _ _ | exact isS_c _ _ | exact isB_c _ _ | exact Nat.le_refl _ | assumption | exact mulLe (by decide) (by omega) | exact mulLe2 (by decide) (by omega) (by omega) | (intros; simp only [BL] at *; omega) | (intros; (try simp only [BL] at *); (try simp only [DL] at *); omega) | (intros; simp only [BL] at *; rw [wr_id (by omega) (by omega)]; omega) | (intro h1 h2; exact Bool.and_eq_true_iff.2 ⟨h1, h2⟩) | (intros; simp_all; done))); conv => whnf)
    | (refine Or.inr (And.intro rfl ?_); first | (refine congrArg intV ?_) | (refine congrArg boolV ?_) | (refine tupII ?_ ?_) | (refine tupIII ?_ ?_ ?_) | (refine tupU ?_ ?_ ?_ ?_ ?_) | exact rfl))
  refine LoopG.nil 11 169 3 rfl ?_
  refine sem_loop tab_ok gamC2_ok mixed (by kernel_rfl) (O := lex) (fun i : Nat => ⟨[(1, .c (.sl 1 n (cB o))), (2, intV (T - S (cLo u o) i)), (9, .own 0), (10, intV (S (cC u (cLo u o)) i)), (11, .own 1), (26, .c (.sl 13 n (cCu u))), (27, intV n), (28, intV i)], [.row 3 1 n false (c1 fun k => if k < i then (if o k then cLo u o k else -1) else 0), rowCom (oN (cM u o) i) (cbC u o n) id]⟩) (fun i => i ≤ n) (fun i => n - i) ⟨0, [?_, ?_], Nat.zero_le _, ?_⟩ fun i hi => ?_
  rotate_left 2
  · refine Sub.of ?_ ?_ ?_
    repeat' (first | (refine And.intro ?_ ?_) | exact trivial | exact fun _ _ _ => hsc _ _ | (exact congrArg intV (by first | with_reducible rfl | with_reducible assumption)) | exact (rfl : AV.idsLt _ _ = true) | exact (rfl : _ = AV.ren _ (.own _)) | exact (rfl : _ = AV.ren _ (.fn _ _)) | exact (rfl : _ = AV.ren _ (.gh _)) | (exact congrArg intV (by assumption)) | (refine congrArg intV ((wr_id (by omega) (by omega)).trans (by omega))) | exact rfl | (simp only [Int.toNat_natCast, Int.toNat_zero, Nat.sub_zero, Nat.zero_add]; first | exact rfl | done) | exact all0 | exact fun h => Bool.noConfusion h | exact fun _ _ _ _ => rfl | omega)
    · intro a _ b hb1
      have hb1 : b < 1 := hb1
      obtain rfl : b = 0 := by omega
      show iL 0 = iL (if a < 0 then (if o a = true then cLo u o a else -1) else 0)
      rw [if_neg (Nat.not_lt_zero _)]
  clear e0
  have hcr := fun k (hk : k ≤ n) => cR_b (o := o) hv hk
  conv => whnf
  repeat' (first
    | (refine NilG.mk fun bn hbn hbx => ?_; conv => whnf)
    | (refine Both.mk ?_ ?_ <;> conv => whnf)
    | ((first | (refine MkG.box 1 rfl rfl rfl (by decide) ?_) | (refine MkG.box 2 rfl rfl rfl (by decide) ?_) | (refine MkG.box 3 rfl rfl rfl (by decide) ?_) | (refine MkG.row ?_)); conv => whnf)
    | exact trivial
    | (refine Br.mk (fun hb => ?_) (fun hb => ?_) <;> (first | (exfalso; revert hb; decide) | ((try simp only [BL] at hb) <;> (try simp only [DL] at hb) <;> conv => whnf)))
    | (refine And.intro ?_ ?_; (focus (first | exact id | exact rfl | exact trivial | (intro hg; first | exact hg | exact rfl | (simp; done) | (simp at hg ⊢; assumption)) | omega | decide | exact is2_c _ _ _ | exact is1_c _ _ | exact isS_c _ _ | exact isB_c _ _ | exact Nat.le_refl _ | assumption | exact mulLe (by decide) (by omega) | exact mulLe2 (by decide) (by omega) (by omega) | (intros; simp only [BL] at *; omega) | (intros; (try simp only [BL] at *); (try simp only [DL] at *); omega) | (intros; simp only [BL] at *; rw [wr_id (by omega) (by omega)]; omega) | (intro h1 h2; exact Bool.and_eq_true_iff.2 ⟨h1, h2⟩) | (intros; simp_all; done))); conv => whnf)
    | (refine Or.inr (And.intro rfl ?_); first | (refine congrArg intV ?_) | (refine congrArg boolV ?_) | (refine tupII ?_ ?_) | (refine tupIII ?_ ?_ ?_) | (refine tupU ?_ ?_ ?_ ?_ ?_) | exact rfl))
  · have hin : i < n := by omega
    have hoi : o i = false := hb
    obtain ⟨hm0, hl0⟩ := cM_off (u := u) hoi
    have e1 : T - S (cLo u o) i = T - S (cLo u o) (i + 1) := by
      have : S (cLo u o) (i + 1) = S (cLo u o) i + cLo u o i := rfl
      omega
    have e2 : S (cC u (cLo u o)) i = S (cC u (cLo u o)) (i + 1) := by
      have : S (cC u (cLo u o)) (i + 1) = S (cC u (cLo u o)) i + cC u (cLo u o) i := rfl
      rw [this, cC_off (hv i hin) hoi, Int.add_zero]
    refine ⟨i + 1, [?_, ?_], by omega, by omega, ?_⟩
    rotate_left 2
    refine Sub.of ?_ ?_ ?_
    repeat' (first | (refine And.intro ?_ ?_) | exact trivial | exact fun _ _ _ => hsc _ _ | (exact congrArg intV (by first | with_reducible rfl | with_reducible assumption)) | exact (rfl : AV.idsLt _ _ = true) | exact (rfl : _ = AV.ren _ (.own _)) | exact (rfl : _ = AV.ren _ (.fn _ _)) | exact (rfl : _ = AV.ren _ (.gh _)) | (exact congrArg intV (by assumption)) | (refine congrArg intV ((wr_id (by omega) (by omega)).trans (by omega))) | exact rfl | (simp only [Int.toNat_natCast, Int.toNat_zero, Nat.sub_zero, Nat.zero_add]; first | exact rfl | done) | exact all0 | exact fun h => Bool.noConfusion h | exact fun _ _ _ _ => rfl | omega)
    · intro a ha b hb1
      have hb1 : b < 1 := hb1
      obtain rfl : b = 0 := by omega
      show (if a = i then iL (-1) else iL (if a < i then (if o a = true then cLo u o a else -1) else 0)) = iL (if a < i + 1 then (if o a = true then cLo u o a else -1) else 0)
      by_cases h : a = i
      · rw [if_pos h, if_pos (show a < i + 1 by omega), h, hoi]; rfl
      · rw [if_neg h]
        by_cases h2 : a < i
        · rw [if_pos h2, if_pos (show a < i + 1 by omega)]
        · rw [if_neg h2, if_neg (by omega)]
    · show oN (cM u o) i = oN (cM u o) i + cM u o i
      omega
  · have hin : i < n := by omega
    have hoi : o i = true := hb
    clear hb
    dsimp only
    rw [if_pos rfl]
    conv => whnf
    repeat' (first
      | (refine NilG.mk fun bn hbn hbx => ?_; conv => whnf)
      | (refine Both.mk ?_ ?_ <;> conv => whnf)
      | ((first | (refine MkG.box 1 rfl rfl rfl (by decide) ?_) | (refine MkG.box 2 rfl rfl rfl (by decide) ?_) | (refine MkG.box 3 rfl rfl rfl (by decide) ?_) | (refine MkG.row ?_)); conv => whnf)
      | exact trivial
      | (refine Br.mk (fun hb => ?_) (fun hb => ?_) <;> (first | (exfalso; revert hb; decide) | ((try simp only [BL] at hb) <;> (try simp only [DL] at hb) <;> conv => whnf)))
      | (refine And.intro ?_ ?_; (focus (first | exact id | exact rfl | exact trivial | (intro hg; first | exact hg | exact rfl | (simp; done) | (simp at hg ⊢; assumption)) | omega | decide | exact is2_c _ _ _ | exact is1_c _ _ | exact isS_c _ _ | exact isB_c _ _ | exact Nat.le_refl _ | assumption | exact mulLe (by decide) (by omega) | exact mulLe2 (by decide) (by omega) (by omega) | (intros; simp only [BL] at *; omega) | (intros; (try simp only [BL] at *); (try simp only [DL] at *); omega) | (intros; simp only [BL] at *; rw [wr_id (by omega) (by omega)]; omega) | (intro h1 h2; exact Bool.and_eq_true_iff.2 ⟨h1, h2⟩) | exact ⟨is2_c _ _ _, (hz i hin).2.1, (hz i hin).2.2⟩ | (intros; simp_all; done))); conv => whnf)
      | (refine Or.inr (And.intro rfl ?_); first | (refine congrArg intV ?_) | (refine congrArg boolV ?_) | (refine tupII ?_ ?_) | (refine tupIII ?_ ?_ ?_) | (refine tupU ?_ ?_ ?_ ?_ ?_) | exact rfl))
    dsimp only
    rw [if_pos rfl]
    conv => whnf
    repeat' (first
      | (refine NilG.mk fun bn hbn hbx => ?_; conv => whnf)
      | (refine Both.mk ?_ ?_ <;> conv => whnf)
      | ((first | (refine MkG.box 1 rfl rfl rfl (by decide) ?_) | (refine MkG.box 2 rfl rfl rfl (by decide) ?_) | (refine MkG.box 3 rfl rfl rfl (by decide) ?_) | (refine MkG.row ?_)); conv => whnf)
      | exact trivial
      | (refine Br.mk (fun hb => ?_) (fun hb => ?_) <;> (first | (exfalso; revert hb; decide) | ((try simp only [BL] at hb) <;> (try simp only [DL] at hb) <;> conv => whnf)))
      | (refine And.intro ?_ ?_; (focus (first | exact id | exact rfl | exact trivial | (intro hg; first | exact hg | exact rfl | (simp; done) | (simp at hg ⊢; assumption)) | omega | decide | exact is2_c _ _ _ | exact is1_c _ _ | exact isS_c _ _ | exact isB_c _ _ | exact Nat.le_refl _ | assumption | exact mulLe (by decide) (by omega) | exact mulLe2 (by decide) (by omega) (by omega) | (intros; simp only [BL] at *; omega) | (intros; (try simp only [BL] at *); (try simp only [DL] at *); omega) | (intros; simp only [BL] at *; rw [wr_id (by omega) (by omega)]; omega) | (intro h1 h2; exact Bool.and_eq_true_iff.2 ⟨h1, h2⟩) | (intros; simp_all; done))); conv => whnf)
      | (refine Or.inr (And.intro rfl ?_); first | (refine congrArg intV ?_) | (refine congrArg boolV ?_) | (refine tupII ?_ ?_) | (refine tupIII ?_ ?_ ?_) | (refine tupU ?_ ?_ ?_ ?_ ?_) | exact rfl))
    dsimp only
    rw [if_pos rfl]
    conv => whnf
    repeat' (first
      | (refine NilG.mk fun bn hbn hbx => ?_; conv => whnf)
      | (refine Both.mk ?_ ?_ <;> conv => whnf)
      | ((first | (refine MkG.box 1 rfl rfl rfl (by decide) ?_) | (refine MkG.box 2 rfl rfl rfl (by decide) ?_) | (refine MkG.box 3 rfl rfl rfl (by decide) ?_) | (refine MkG.row ?_)); conv => whnf)
      | exact trivial
      | (refine Br.mk (fun hb => ?_) (fun hb => ?_) <;> (first | (exfalso; revert hb; decide) | ((try simp only [BL] at hb) <;> (try simp only [DL] at hb) <;> conv => whnf)))
      | (refine And.intro ?_ ?_; (focus (first | exact id | exact rfl | exact trivial | (intro hg; first | exact hg | exact rfl | (simp; done) | (simp at hg ⊢; assumption)) | omega | decide | exact is2_c _ _ _ | exact is1_c _ _ | exact isS_c _ _ | exact isB_c _ _ | exact Nat.le_refl _ | assumption | exact mulLe (by decide) (by omega) | exact mulLe2 (by decide) (by omega) (by omega) | (intros; simp only [BL] at *; omega) | (intros; (try simp only [BL] at *); (try simp only [DL] at *); omega) | (intros; simp only [BL] at *; rw [wr_id (by omega) (by omega)]; omega) | (intro h1 h2; exact Bool.and_eq_true_iff.2 ⟨h1, h2⟩) | (intros; simp_all; done))); conv => whnf)
      | (refine Or.inr (And.intro rfl ?_); first | (refine congrArg intV ?_) | (refine congrArg boolV ?_) | (refine tupII ?_ ?_) | (refine tupIII ?_ ?_ ?_) | (refine tupU ?_ ?_ ?_ ?_ ?_) | exact rfl))
    obtain ⟨v0, v1, v2, v3, v4, v5, v6, v7⟩ := cuE_zero (hv i hin)
    have hp := fun j (hj : j < (u i).m) => (v3.2.1 j hj).1
    have eL : cLo u o i = (u i).r.le := by unfold cLo; rw [if_pos hoi]
    have hS1 : S (cLo u o) (i + 1) = S (cLo u o) i + (u i).r.le := by rw [← eL]; rfl
    have hC1 : S (cC u (cLo u o)) (i + 1) = S (cC u (cLo u o)) i + S (ct (u i).p (u i).q (u i).r.le) (u i).m := by
      show S (cC u (cLo u o)) i + cC u (cLo u o) i = _
      unfold cC
      rw [eL]
    have hcr1 := hcr (i + 1) hin
    have hcr0 := hcr i hi
    have hcb1 := cC_b hv (cLo u o) (k := i + 1) hin
    have hcb0 := cC_b hv (cLo u o) (k := i) hi
    have eT : IntKind.i64.wrap (T - S (cLo u o) i - (u i).r.le) = T - S (cLo u o) (i + 1) := by
      rw [hS1, wr_id (by omega) (by omega)]
      omega
    have hxe : offXE (u i).s (u i).m (u i).p (u i).q (u i).r.le = 0 := by
      unfold offXE
      rw [if_neg (fun h => h v2), if_neg (by omega)]
    have eC : IntKind.i64.wrap (S (cC u (cLo u o)) i + (if offXE (u i).s (u i).m (u i).p (u i).q (u i).r.le = 0 then S (ct (u i).p (u i).q (u i).r.le) (u i).m else 0)) = S (cC u (cLo u o)) (i + 1) := by
      rw [if_pos hxe, hC1]
      exact wr_id (by omega) (by omega)
    have eU : (u i).r.le = max 0 ((u i).r.le - S (u i).p 0) := by
      show (u i).r.le = max 0 ((u i).r.le - 0)
      omega
    obtain ⟨n0, n1⟩ := cN_all (hv i hin) hoi
    have e0 : oN (cM u o) i = oN (cM u o) i + cN u o i 0 := by rw [n0, Nat.add_zero]
    refine sem_loop tab_ok gamC2_ok mixed (by kernel_rfl) (O := lex) (fun j : Nat => ⟨[(1, .c (.sl 1 n (cB o))), (2, intV (T - S (cLo u o) (i + 1))), (9, .own 0), (10, intV (S (cC u (cLo u o)) (i + 1))), (11, .own 1), (12, intV i), (16, intV (max 0 ((u i).r.le - S (u i).p j))), (26, .c (.sl 13 n (cCu u))), (27, intV n), (28, intV i), (72, .c (.sl 2 (u i).m (c2 (u i).p (u i).q))), (73, intV (u i).m), (74, intV j)], [.row 3 1 n false (c1 fun k => if k < i + 1 then (if o k then cLo u o k else -1) else 0), rowCom (oN (cM u o) i + cN u o i j) (cbC u o n) id]⟩) (fun j => j ≤ (u i).m) (fun j => (u i).m - j) ⟨0, [?_, ?_], Nat.zero_le _, ?_⟩ fun j hj => ?_
    rotate_left 2
    · refine Sub.of ?_ ?_ ?_
      repeat' (first | (refine And.intro ?_ ?_) | exact trivial | exact fun _ _ _ => hsc _ _ | (exact congrArg intV (by first | with_reducible rfl | with_reducible assumption)) | exact (rfl : AV.idsLt _ _ = true) | exact (rfl : _ = AV.ren _ (.own _)) | exact (rfl : _ = AV.ren _ (.fn _ _)) | exact (rfl : _ = AV.ren _ (.gh _)) | (exact congrArg intV (by assumption)) | (refine congrArg intV ((wr_id (by omega) (by omega)).trans (by omega))) | exact rfl | (simp only [Int.toNat_natCast, Int.toNat_zero, Nat.sub_zero, Nat.zero_add]; first | exact rfl | done) | exact all0 | exact fun h => Bool.noConfusion h | exact fun _ _ _ _ => rfl | omega)
      · intro a ha b hb1
        obtain rfl : b = 0 := by omega
        show (if a = i then iL (u i).r.le else (if a = i then iL (-1) else iL (if a < i then (if o a = true then cLo u o a else -1) else 0))) = iL (if a < i + 1 then (if o a = true then cLo u o a else -1) else 0)
        by_cases h : a = i
        · rw [if_pos h, if_pos (show a < i + 1 by omega), h, if_pos hoi, eL]
        · rw [if_neg h, if_neg h]
          by_cases h2 : a < i
          · rw [if_pos h2, if_pos (show a < i + 1 by omega)]
          · rw [if_neg h2, if_neg (by omega)]
    clear e0 eU eT eC
    have hN := coN_le (o := o) hv i hi
    have hM := cM_le (o := o) (hv i hin)
    have hst := cN_step (o := o) (hv i hin) hoi (j := j)
    have hS0 := fun (h : j ≤ (u i).m) => v3.S0 h
    have hSm := hS0 hj
    have hpj := v3.2.1 j
    conv => whnf
    repeat' (first
      | (refine NilG.mk fun bn hbn hbx => ?_; conv => whnf)
      | (refine Both.mk ?_ ?_ <;> conv => whnf)
      | ((first | (refine MkG.box 1 rfl rfl rfl (by decide) ?_) | (refine MkG.box 2 rfl rfl rfl (by decide) ?_) | (refine MkG.box 3 rfl rfl rfl (by decide) ?_) | (refine MkG.row ?_)); conv => whnf)
      | exact trivial
      | (refine Br.mk (fun hb => ?_) (fun hb => ?_) <;> (first | (exfalso; revert hb; decide) | ((try simp only [BL] at hb) <;> (try simp only [DL] at hb) <;> conv => whnf)))
      | (refine And.intro ?_ ?_; (focus (first | exact id | exact rfl | exact trivial | (intro hg; first | exact hg | exact rfl | (simp; done) | (simp at hg ⊢; assumption)) | omega | decide | exact is2_c _ _ _ | exact is1_c _ _ | exact isS_c _ _ | exact isB_c _ _ | exact Nat.le_refl _ | assumption | exact mulLe (by decide) (by omega) | exact mulLe2 (by decide) (by omega) (by omega) | (intros; simp only [BL] at *; omega) | (intros; (try simp only [BL] at *); (try simp only [DL] at *); omega) | (intros; simp only [BL] at *; rw [wr_id (by omega) (by omega)]; omega) | (intro h1 h2; exact Bool.and_eq_true_iff.2 ⟨h1, h2⟩) | (intros; simp_all; done))); conv => whnf)
      | (refine Or.inr (And.intro rfl ?_); first | (refine congrArg intV ?_) | (refine congrArg boolV ?_) | (refine tupII ?_ ?_) | (refine tupIII ?_ ?_ ?_) | (refine tupU ?_ ?_ ?_ ?_ ?_) | exact rfl))
    · have hjm : j < (u i).m := by omega
      have hpj := hpj hjm
      obtain ⟨hst1, _⟩ := hst hjm
      have e1 : S (u i).p (j + 1) = S (u i).p j + (u i).p j := rfl
      obtain ⟨s1, s2, s3, s4⟩ := hst1 (by omega)
      have hcN : cN u o i j ≤ j := by unfold cN; split <;> omega
      have b0 := own_at (m := cM u o) s2 hin
      have b1 := bSz_at (p := cP u o) hin s2
      have b2 := bSz_at (p := cQ u o) hin s2
      rw [s3] at b1
      rw [s4] at b2
      have w1 : IntKind.i64.wrap ((u i).p j - min (max 0 ((u i).r.le - S (u i).p j)) ((u i).p j)) = bSz (cM u o) (cP u o) n (oN (cM u o) i + cN u o i j) := by
        rw [b1, wr_id (by omega) (by omega)]
        omega
      have w2 : IntKind.i64.wrap (max 0 ((u i).r.le - S (u i).p j) - min (max 0 ((u i).r.le - S (u i).p j)) ((u i).p j)) = max 0 ((u i).r.le - S (u i).p (j + 1)) := by
        rw [wr_id (by omega) (by omega)]
        omega
      refine And.intro (by show (oN (cM u o) i + cN u o i j + 1) * 24 ≤ _; omega) ?_
      conv => whnf
      repeat' (first
        | (refine NilG.mk fun bn hbn hbx => ?_; conv => whnf)
        | (refine Both.mk ?_ ?_ <;> conv => whnf)
        | ((first | (refine MkG.box 1 rfl rfl rfl (by decide) ?_) | (refine MkG.box 2 rfl rfl rfl (by decide) ?_) | (refine MkG.box 3 rfl rfl rfl (by decide) ?_) | (refine MkG.row ?_)); conv => whnf)
        | exact trivial
        | (refine Br.mk (fun hb => ?_) (fun hb => ?_) <;> (first | (exfalso; revert hb; decide) | ((try simp only [BL] at hb) <;> (try simp only [DL] at hb) <;> conv => whnf)))
        | (refine And.intro ?_ ?_; (focus (first | exact id | exact rfl | exact trivial | (intro hg; first | exact hg | exact rfl | (simp; done) | (simp at hg ⊢; assumption)) | omega | decide | exact is2_c _ _ _ | exact is1_c _ _ | exact isS_c _ _ | exact isB_c _ _ | exact Nat.le_refl _ | assumption | exact mulLe (by decide) (by omega) | exact mulLe2 (by decide) (by omega) (by omega) | (intros; simp only [BL] at *; omega) | (intros; (try simp only [BL] at *); (try simp only [DL] at *); omega) | (intros; simp only [BL] at *; rw [wr_id (by omega) (by omega)]; omega) | (intro h1 h2; exact Bool.and_eq_true_iff.2 ⟨h1, h2⟩) | (intros; simp_all; done))); conv => whnf)
        | (refine Or.inr (And.intro rfl ?_); first | (refine congrArg intV ?_) | (refine congrArg boolV ?_) | (refine tupII ?_ ?_) | (refine tupIII ?_ ?_ ?_) | (refine tupU ?_ ?_ ?_ ?_ ?_) | exact rfl))
      have e5 : oN (cM u o) i + cN u o i j + 1 = oN (cM u o) i + cN u o i (j + 1) := by omega
      refine ⟨j + 1, [?_, ?_], by omega, by omega, ?_⟩
      rotate_left 2
      refine Sub.of ?_ ?_ ?_
      repeat' (first | (refine And.intro ?_ ?_) | exact trivial | exact fun _ _ _ => hsc _ _ | (exact congrArg intV (by first | with_reducible rfl | with_reducible assumption)) | exact (rfl : AV.idsLt _ _ = true) | exact (rfl : _ = AV.ren _ (.own _)) | exact (rfl : _ = AV.ren _ (.fn _ _)) | exact (rfl : _ = AV.ren _ (.gh _)) | (exact congrArg intV (by assumption)) | (refine congrArg intV ((wr_id (by omega) (by omega)).trans (by omega))) | exact rfl | (simp only [Int.toNat_natCast, Int.toNat_zero, Nat.sub_zero, Nat.zero_add]; first | exact rfl | done) | exact all0 | exact fun h => Bool.noConfusion h | exact fun _ _ _ _ => rfl | omega)
      intro aq haq bq hbq
      by_cases hltq : aq < oN (cM u o) i + cN u o i j
      · exact if_pos hltq
      · obtain rfl : aq = oN (cM u o) i + cN u o i j := by omega
        refine (if_neg hltq).trans ?_
        rw [Nat.sub_self]
        revert bq hbq
        refine all3 (congrArg (fun z : Nat => iL (z : Int)) b0.symm) (congrArg iL w1) (congrArg iL b2.symm)
    · have hjm : j < (u i).m := by omega
      have hpj := hpj hjm
      obtain ⟨_, hst2⟩ := hst hjm
      have e1 : S (u i).p (j + 1) = S (u i).p j + (u i).p j := rfl
      have s1 := hst2 (by omega)
      have w2 : IntKind.i64.wrap (max 0 ((u i).r.le - S (u i).p j) - min (max 0 ((u i).r.le - S (u i).p j)) ((u i).p j)) = max 0 ((u i).r.le - S (u i).p (j + 1)) := by
        rw [wr_id (by omega) (by omega)]
        omega
      have e5 : oN (cM u o) i + cN u o i j = oN (cM u o) i + cN u o i (j + 1) := by omega
      refine ⟨j + 1, [?_, ?_], by omega, by omega, ?_⟩
      rotate_left 2
      refine Sub.of ?_ ?_ ?_
      repeat' (first | (refine And.intro ?_ ?_) | exact trivial | exact fun _ _ _ => hsc _ _ | (exact congrArg intV (by first | with_reducible rfl | with_reducible assumption)) | exact (rfl : AV.idsLt _ _ = true) | exact (rfl : _ = AV.ren _ (.own _)) | exact (rfl : _ = AV.ren _ (.fn _ _)) | exact (rfl : _ = AV.ren _ (.gh _)) | (exact congrArg intV (by assumption)) | (refine congrArg intV ((wr_id (by omega) (by omega)).trans (by omega))) | exact rfl | (simp only [Int.toNat_natCast, Int.toNat_zero, Nat.sub_zero, Nat.zero_add]; first | exact rfl | done) | exact all0 | exact fun h => Bool.noConfusion h | exact fun _ _ _ _ => rfl | omega)
    · have hjm : j = (u i).m := by omega
      have e5 : oN (cM u o) i + cN u o i j = oN (cM u o) (i + 1) := by
        rw [hjm, n1]
        rfl
      refine ⟨i + 1, [?_, ?_], by omega, by omega, ?_⟩
      rotate_left 2
      refine Sub.of ?_ ?_ ?_
      repeat' (first | (refine And.intro ?_ ?_) | exact trivial | exact fun _ _ _ => hsc _ _ | (exact congrArg intV (by first | with_reducible rfl | with_reducible assumption)) | exact (rfl : AV.idsLt _ _ = true) | exact (rfl : _ = AV.ren _ (.own _)) | exact (rfl : _ = AV.ren _ (.fn _ _)) | exact (rfl : _ = AV.ren _ (.gh _)) | (exact congrArg intV (by assumption)) | (refine congrArg intV ((wr_id (by omega) (by omega)).trans (by omega))) | exact rfl | (simp only [Int.toNat_natCast, Int.toNat_zero, Nat.sub_zero, Nat.zero_add]; first | exact rfl | done) | exact all0 | exact fun h => Bool.noConfusion h | exact fun _ _ _ _ => rfl | omega)
  · obtain rfl : i = n := by omega
    exact .inr ⟨rfl, .inl ⟨by omega, rfl⟩⟩
  have hin : i = n := by omega
  subst hin
  have hN := coN_le (o := o) hv i (Nat.le_refl _)
  have hSlo : S (cLo u o) i ≤ T := by omega
  have hcb := cC_b hv (cLo u o) (k := i) (Nat.le_refl _)
  have hcri := hcr i (Nat.le_refl _)
  generalize hT9 : T - S (cLo u o) i = D at *
  refine CallG.wr [1] rfl (FnM.mono (sortCom (cmCmp hv) (by omega)) ?_)
  rintro obs r ⟨π, hq, rfl, rfl⟩
  conv => whnf
  repeat' (first
    | (refine NilG.mk fun bn hbn hbx => ?_; conv => whnf)
    | (refine Both.mk ?_ ?_ <;> conv => whnf)
    | ((first | (refine MkG.box 1 rfl rfl rfl (by decide) ?_) | (refine MkG.box 2 rfl rfl rfl (by decide) ?_) | (refine MkG.box 3 rfl rfl rfl (by decide) ?_) | (refine MkG.row ?_)); conv => whnf)
    | exact trivial
    | (refine Br.mk (fun hb => ?_) (fun hb => ?_) <;> (first | (exfalso; revert hb; decide) | ((try simp only [BL] at hb) <;> (try simp only [DL] at hb) <;> conv => whnf)))
    | (refine And.intro ?_ ?_; (focus (first | exact id | exact rfl | exact trivial | (intro hg; first | exact hg | exact rfl | (simp; done) | (simp at hg ⊢; assumption)) | omega | decide | exact is2_c _ _ _ | exact is1_c _ _ | exact isS_c _ _ | exact isB_c _ _ | exact Nat.le_refl _ | assumption | exact mulLe (by decide) (by omega) | exact mulLe2 (by decide) (by omega) (by omega) | (intros; simp only [BL] at *; omega) | (intros; (try simp only [BL] at *); (try simp only [DL] at *); omega) | (intros; simp only [BL] at *; rw [wr_id (by omega) (by omega)]; omega) | (intro h1 h2; exact Bool.and_eq_true_iff.2 ⟨h1, h2⟩) | (intros; simp_all; done))); conv => whnf)
    | (refine Or.inr (And.intro rfl ?_); first | (refine congrArg intV ?_) | (refine congrArg boolV ?_) | (refine tupII ?_ ?_) | (refine tupIII ?_ ?_ ?_) | (refine tupU ?_ ?_ ?_ ?_ ?_) | exact rfl))
  have hB2 := cBlks hv hq
  have hcz : ∀ z, z ≤ oN (cM u o) i → 0 ≤ bCum (cM u o) (cP u o) i π z := fun z hz => hB2.cum_mono (a := 0) (b := z) (Nat.zero_le _) hz
  have hMt : ∀ z, z < oN (cM u o) i → 0 ≤ bTk (cM u o) (cP u o) i π D z ∧ bTk (cM u o) (cP u o) i π D z ≤ 100000 := fun z hz => by
    have h1 := cbQ hv (hq.lt hz)
    have h2 := hcz z (by omega)
    have h3 : bCum (cM u o) (cP u o) i π (z + 1) = bCum (cM u o) (cP u o) i π z + bSz (cM u o) (cP u o) i (π z) := rfl
    unfold bTk
    omega
  have hM : ∀ z, z < oN (cM u o) i → -100000000000 ≤ bTk (cM u o) (cP u o) i π D z * bSz (cM u o) (cQ u o) i (π z) ∧ bTk (cM u o) (cP u o) i π D z * bSz (cM u o) (cQ u o) i (π z) ≤ 100000000000 := fun z hz => by
    have h1 := cbQ hv (hq.lt hz)
    have h4 := hMt z hz
    have := mulB h4.1 h4.2 h1.1 h1.2.1 (by decide)
    omega
  have e0 : D = D - min D (bCum (cM u o) (cP u o) i π 0) := by
    show D = D - min D 0
    omega
  have e10 : S (cC u (cLo u o)) i = S (cC u (cLo u o)) i + S (fun b => bTk (cM u o) (cP u o) i π D b * bSz (cM u o) (cQ u o) i (π b)) 0 := (Int.add_zero _).symm
  refine sem_loop tab_ok gamC2_ok mixed (by kernel_rfl) (O := lex) (fun b : Nat => ⟨[(2, intV (D - min D (bCum (cM u o) (cP u o) i π b))), (9, .own 0), (10, intV (S (cC u (cLo u o)) i + S (fun b => bTk (cM u o) (cP u o) i π D b * bSz (cM u o) (cQ u o) i (π b)) b)), (106, .own 1), (107, intV (oN (cM u o) i : Nat)), (108, intV b)], [.row 3 1 i false (c1 fun k => if o k then cLo u o k + bX (cM u o) (cP u o) i π D k b else -1), rowCom (oN (cM u o) i) (cbC u o i) π]⟩) (fun b => b ≤ oN (cM u o) i) (fun b => oN (cM u o) i - b) ⟨0, [?_, ?_], Nat.zero_le _, ?_⟩ fun b hb0 => ?_
  rotate_left 2
  · refine Sub.of ?_ ?_ ?_
    repeat' (first | (refine And.intro ?_ ?_) | exact trivial | exact fun _ _ _ => hsc _ _ | (exact congrArg intV (by first | with_reducible rfl | with_reducible assumption)) | exact (rfl : AV.idsLt _ _ = true) | exact (rfl : _ = AV.ren _ (.own _)) | exact (rfl : _ = AV.ren _ (.fn _ _)) | exact (rfl : _ = AV.ren _ (.gh _)) | (exact congrArg intV (by assumption)) | (refine congrArg intV ((wr_id (by omega) (by omega)).trans (by omega))) | exact rfl | (simp only [Int.toNat_natCast, Int.toNat_zero, Nat.sub_zero, Nat.zero_add]; first | exact rfl | done) | exact all0 | exact fun h => Bool.noConfusion h | exact fun _ _ _ _ => rfl | omega)
    · intro a ha c hc
      have hc : c < 1 := hc
      obtain rfl : c = 0 := by omega
      show iL (if a < i then (if o a = true then cLo u o a else -1) else 0) = iL (if o a = true then cLo u o a + 0 else -1)
      rw [if_pos ha, Int.add_zero]
  clear e0 e10
  have hbN := fun h : b < oN (cM u o) i => hq.lt h
  have hown := fun h : b < oN (cM u o) i => own_spec (hq.lt h)
  conv => whnf
  repeat' (first
    | (refine NilG.mk fun bn hbn hbx => ?_; conv => whnf)
    | (refine Both.mk ?_ ?_ <;> conv => whnf)
    | ((first | (refine MkG.box 1 rfl rfl rfl (by decide) ?_) | (refine MkG.box 2 rfl rfl rfl (by decide) ?_) | (refine MkG.box 3 rfl rfl rfl (by decide) ?_) | (refine MkG.row ?_)); conv => whnf)
    | exact trivial
    | (refine Br.mk (fun hb => ?_) (fun hb => ?_) <;> (first | (exfalso; revert hb; decide) | ((try simp only [BL] at hb) <;> (try simp only [DL] at hb) <;> conv => whnf)))
    | (refine And.intro ?_ ?_; (focus (first | exact id | exact rfl | exact trivial | (intro hg; first | exact hg | exact rfl | (simp; done) | (simp at hg ⊢; assumption)) | omega | decide | exact is2_c _ _ _ | exact is1_c _ _ | exact isS_c _ _ | exact isB_c _ _ | exact Nat.le_refl _ | assumption | exact mulLe (by decide) (by omega) | exact mulLe2 (by decide) (by omega) (by omega) | (intros; simp only [BL] at *; omega) | (intros; (try simp only [BL] at *); (try simp only [DL] at *); omega) | (intros; simp only [BL] at *; rw [wr_id (by omega) (by omega)]; omega) | (intro h1 h2; exact Bool.and_eq_true_iff.2 ⟨h1, h2⟩) | (intros; simp_all; done))); conv => whnf)
    | (refine Or.inr (And.intro rfl ?_); first | (refine congrArg intV ?_) | (refine congrArg boolV ?_) | (refine tupII ?_ ?_) | (refine tupIII ?_ ?_ ?_) | (refine tupU ?_ ?_ ?_ ?_ ?_) | exact rfl))
  · have hbl : b < oN (cM u o) i := by omega
    clear hb
    have ho := hown hbl
    refine And.intro ⟨rfl, by rw [Int.toNat_natCast]; exact hbl, by decide⟩ ?_
    have hqb := cbQ hv (hq.lt hbl)
    have hc0 := hcz b hb0
    have hc1 : bCum (cM u o) (cP u o) i π (b + 1) = bCum (cM u o) (cP u o) i π b + bSz (cM u o) (cP u o) i (π b) := rfl
    have htk : min (D - min D (bCum (cM u o) (cP u o) i π b)) (bSz (cM u o) (cP u o) i (π (b : Int).toNat)) = bTk (cM u o) (cP u o) i π D b := by
      show min (D - min D (bCum (cM u o) (cP u o) i π b)) (bSz (cM u o) (cP u o) i (π b)) = _
      unfold bTk
      omega
    have htb := hMt b hbl
    have hl1 : IntKind.i64.wrap (D - min D (bCum (cM u o) (cP u o) i π b) - min (D - min D (bCum (cM u o) (cP u o) i π b)) (bSz (cM u o) (cP u o) i (π (b : Int).toNat))) = D - min D (bCum (cM u o) (cP u o) i π (b + 1)) := by
      rw [htk, wr_id (by omega) (by omega)]
      unfold bTk
      omega
    have hl2 : IntKind.i64.wrap (S (cC u (cLo u o)) i + S (fun b => bTk (cM u o) (cP u o) i π D b * bSz (cM u o) (cQ u o) i (π b)) b + IntKind.i64.wrap (min (D - min D (bCum (cM u o) (cP u o) i π b)) (bSz (cM u o) (cP u o) i (π (b : Int).toNat)) * bSz (cM u o) (cQ u o) i (π (b : Int).toNat))) = S (cC u (cLo u o)) i + S (fun b => bTk (cM u o) (cP u o) i π D b * bSz (cM u o) (cQ u o) i (π b)) (b + 1) := by
      have h1 := hM b hbl
      have h2 := S_le (p := fun b => bTk (cM u o) (cP u o) i π D b * bSz (cM u o) (cQ u o) i (π b)) (k := b) (a := -100000000000) (b := 100000000000) fun z hz => hM z (by omega)
      have h3 : S (fun b => bTk (cM u o) (cP u o) i π D b * bSz (cM u o) (cQ u o) i (π b)) (b + 1) = S (fun b => bTk (cM u o) (cP u o) i π D b * bSz (cM u o) (cQ u o) i (π b)) b + bTk (cM u o) (cP u o) i π D b * bSz (cM u o) (cQ u o) i (π b) := rfl
      rw [htk, Int.toNat_natCast, wr_id (x := bTk (cM u o) (cP u o) i π D b * bSz (cM u o) (cQ u o) i (π b)) (by omega) (by omega), h3, wr_id (by omega) (by omega)]
      omega
    have hoo : o (own (cM u o) i (π b)) = true := by
      cases h9 : o (own (cM u o) i (π b)) with
      | true => rfl
      | false => have := (cM_off (u := u) h9).1; omega
    conv => whnf
    repeat' (first
      | (refine NilG.mk fun bn hbn hbx => ?_; conv => whnf)
      | (refine Both.mk ?_ ?_ <;> conv => whnf)
      | ((first | (refine MkG.box 1 rfl rfl rfl (by decide) ?_) | (refine MkG.box 2 rfl rfl rfl (by decide) ?_) | (refine MkG.box 3 rfl rfl rfl (by decide) ?_) | (refine MkG.row ?_)); conv => whnf)
      | exact trivial
      | (refine Br.mk (fun hb => ?_) (fun hb => ?_) <;> (first | (exfalso; revert hb; decide) | ((try simp only [BL] at hb) <;> (try simp only [DL] at hb) <;> conv => whnf)))
      | (refine And.intro ?_ ?_; (focus (first | exact id | exact rfl | exact trivial | (intro hg; first | exact hg | exact rfl | (simp; done) | (simp at hg ⊢; assumption)) | omega | decide | exact is2_c _ _ _ | exact is1_c _ _ | exact isS_c _ _ | exact isB_c _ _ | exact Nat.le_refl _ | assumption | exact mulLe (by decide) (by omega) | exact mulLe2 (by decide) (by omega) (by omega) | (intros; simp only [BL] at *; omega) | (intros; (try simp only [BL] at *); (try simp only [DL] at *); omega) | (intros; simp only [BL] at *; rw [wr_id (by omega) (by omega)]; omega) | (intro h1 h2; exact Bool.and_eq_true_iff.2 ⟨h1, h2⟩) | (intros; simp_all; done))); conv => whnf)
      | (refine Or.inr (And.intro rfl ?_); first | (refine congrArg intV ?_) | (refine congrArg boolV ?_) | (refine tupII ?_ ?_) | (refine tupIII ?_ ?_ ?_) | (refine tupU ?_ ?_ ?_ ?_ ?_) | exact rfl))
    · refine ⟨b + 1, [?_, ?_], by omega, by omega, ?_⟩
      rotate_left 2
      refine Sub.of ?_ ?_ ?_
      repeat' (first | (refine And.intro ?_ ?_) | exact trivial | exact fun _ _ _ => hsc _ _ | (exact congrArg intV (by first | with_reducible rfl | with_reducible assumption)) | exact (rfl : AV.idsLt _ _ = true) | exact (rfl : _ = AV.ren _ (.own _)) | exact (rfl : _ = AV.ren _ (.fn _ _)) | exact (rfl : _ = AV.ren _ (.gh _)) | (exact congrArg intV (by assumption)) | (refine congrArg intV ((wr_id (by omega) (by omega)).trans (by omega))) | exact rfl | (simp only [Int.toNat_natCast, Int.toNat_zero, Nat.sub_zero, Nat.zero_add]; first | exact rfl | done) | exact all0 | exact fun h => Bool.noConfusion h | exact fun _ _ _ _ => rfl | omega)
      intro a ha c hc9
      obtain rfl : c = 0 := by omega
      have hbx := S_le (p := fun z => if own (cM u o) i (π z) = own (cM u o) i (π b) then bTk (cM u o) (cP u o) i π D z else 0) (k := b) (a := 0) (b := 100000) fun z hz => by
        have := hMt z (by omega)
        split <;> omega
      have hbx : 0 * (b : Int) ≤ bX (cM u o) (cP u o) i π D (own (cM u o) i (π b)) b ∧ bX (cM u o) (cP u o) i π D (own (cM u o) i (π b)) b ≤ 100000 * b := hbx
      have hlo := cLH (o := o) (hv _ ho.1)
      have e : bX (cM u o) (cP u o) i π D a (b + 1) = bX (cM u o) (cP u o) i π D a b + (if own (cM u o) i (π b) = a then bTk (cM u o) (cP u o) i π D b else 0) := rfl
      show (if a = own (cM u o) i (π b) then iL (IntKind.i64.wrap ((if o (own (cM u o) i (π b)) = true then cLo u o (own (cM u o) i (π b)) + bX (cM u o) (cP u o) i π D (own (cM u o) i (π b)) b else -1) + min (D - min D (bCum (cM u o) (cP u o) i π b)) (bSz (cM u o) (cP u o) i (π (b : Int).toNat)))) else iL (if o a = true then cLo u o a + bX (cM u o) (cP u o) i π D a b else -1)) = iL (if o a = true then cLo u o a + bX (cM u o) (cP u o) i π D a (b + 1) else -1)
      rw [htk, e]
      by_cases h : a = own (cM u o) i (π b)
      · rw [if_pos h, if_pos hoo, if_pos (by rw [h]; exact hoo), if_pos h.symm, h, wr_id (by omega) (by omega), Int.add_assoc]
      · have e9 : (if own (cM u o) i (π b) = a then bTk (cM u o) (cP u o) i π D b else 0) = 0 := if_neg (fun e => h e.symm)
        rw [if_neg h, e9, Int.add_zero]
  · have hbe : b = oN (cM u o) i := by omega
    subst hbe
    have hall : bCum (cM u o) (cP u o) i π (oN (cM u o) i) = S (cR u o) i := hB2.cum_all.trans (cSum hv)
    refine .inr ⟨rfl, .inr ⟨hSlo, π, hq, ?_⟩⟩
    rw [hT9, hall]
    have e9 : (D - min D (S (cR u o) i) == 0) = decide (D ≤ S (cR u o) i) := by
      rw [Bool.eq_iff_iff]
      simp only [beq_iff_eq, decide_eq_true_eq]
      omega
    show AV.tup [_, _, boolV (D - min D (S (cR u o) i) == 0)] = _
    rw [e9]
    rfl
end Go.Proofs.Ytemfikdogdadnaa
