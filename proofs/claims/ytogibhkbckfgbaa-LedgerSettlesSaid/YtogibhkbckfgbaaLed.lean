/-
  The ledger: Settle, and the functions of the library that it calls.
-/
import Derived.Test.YtogibhkbckfgbaaOffLs
namespace Go.Proofs.Ytogibhkbckfgbaa
open Go.RowKit

/-- the index of the first negative one, of the first positive one -/
def ngB (x : Nat → Int) (k : Nat) : Bool := decide (x k < 0)
def psB (x : Nat → Int) (k : Nat) : Bool := decide (x k > 0)

theorem f75 (n : Int) : Fn1 Try.prog 75 [intV n] (boolV (decide (n < 0))) := by
  refine fn_of_wpx (O := lex) tab_ok gamO1_ok mixed Try.func75 (by kernel_rfl) rfl rfl rfl (by simp [Try.ntmps75]) (by kernel_rfl) ?_
  conv => whnf
  repeat' (first
    | (refine NilG.mk fun bn hbn => ?_; conv => whnf)
    | (refine Both.mk ?_ ?_ <;> conv => whnf)
    | exact trivial
    | (refine Br.mk (fun hb => ?_) (fun hb => ?_) <;> (first | (exfalso; revert hb; decide) | ((try simp only [BL] at hb) <;> (try simp only [DL] at hb) <;> conv => whnf)))
    | (refine And.intro ?_ ?_; (focus (first | exact id | exact rfl | exact trivial | (intro hg; first | exact hg | exact rfl | (simp; done) | (simp at hg ⊢; assumption)) | omega | decide | exact is2_c _ _ _ | exact is1_c _ _ | exact isS_c _ _ | exact isB_c _ _ | exact Nat.le_refl _ | assumption | exact mulLe (by decide) (by omega) | exact mulLe2 (by decide) (by omega) (by omega) | (intros; simp only [BL] at *; omega) | (intros; (try simp only [BL] at *); (try simp only [DL] at *); omega) | (intros; simp only [BL] at *; rw [wr_id (by omega) (by omega)]; omega) | (intros; simp_all; done))); conv => whnf)
    | (refine Or.inr (And.intro rfl ?_); first | (refine congrArg intV ?_) | (refine congrArg boolV ?_) | (refine tupII ?_ ?_) | (refine tupIII ?_ ?_ ?_) | (refine tupU ?_ ?_ ?_ ?_ ?_) | exact rfl))
  all_goals rfl
theorem f76 (n : Int) : Fn1 Try.prog 76 [intV n] (boolV (decide (n > 0))) := by
  refine fn_of_wpx (O := lex) tab_ok gamO1_ok mixed Try.func76 (by kernel_rfl) rfl rfl rfl (by simp [Try.ntmps76]) (by kernel_rfl) ?_
  conv => whnf
  repeat' (first
    | (refine NilG.mk fun bn hbn => ?_; conv => whnf)
    | (refine Both.mk ?_ ?_ <;> conv => whnf)
    | exact trivial
    | (refine Br.mk (fun hb => ?_) (fun hb => ?_) <;> (first | (exfalso; revert hb; decide) | ((try simp only [BL] at hb) <;> (try simp only [DL] at hb) <;> conv => whnf)))
    | (refine And.intro ?_ ?_; (focus (first | exact id | exact rfl | exact trivial | (intro hg; first | exact hg | exact rfl | (simp; done) | (simp at hg ⊢; assumption)) | omega | decide | exact is2_c _ _ _ | exact is1_c _ _ | exact isS_c _ _ | exact isB_c _ _ | exact Nat.le_refl _ | assumption | exact mulLe (by decide) (by omega) | exact mulLe2 (by decide) (by omega) (by omega) | (intros; simp only [BL] at *; omega) | (intros; (try simp only [BL] at *); (try simp only [DL] at *); omega) | (intros; simp only [BL] at *; rw [wr_id (by omega) (by omega)]; omega) | (intros; simp_all; done))); conv => whnf)
    | (refine Or.inr (And.intro rfl ?_); first | (refine congrArg intV ?_) | (refine congrArg boolV ?_) | (refine tupII ?_ ?_) | (refine tupIII ?_ ?_ ?_) | (refine tupU ?_ ?_ ?_ ?_ ?_) | exact rfl))
  all_goals rfl

theorem idxNg (n : Nat) (x : Nat → Int) (hn : n ≤ 1000) : Fn1 Try.prog 74 [.c (.sl 1 n (c1 x)), .fn 75 []] (intV (fidx (ngB x) n)) := by
  refine fn_of_wpx (O := lex) tab_ok gamO1_ok mixed Try.func74 (by kernel_rfl) rfl rfl rfl (by simp [Try.ntmps74]) (by kernel_rfl) ?_
  conv => whnf
  repeat' (first
    | (refine NilG.mk fun bn hbn => ?_; conv => whnf)
    | (refine Both.mk ?_ ?_ <;> conv => whnf)
    | exact trivial
    | (refine Br.mk (fun hb => ?_) (fun hb => ?_) <;> (first | (exfalso; revert hb; decide) | ((try simp only [BL] at hb) <;> (try simp only [DL] at hb) <;> conv => whnf)))
    | (refine And.intro ?_ ?_; (focus (first | exact id | exact rfl | exact trivial | (intro hg; first | exact hg | exact rfl | (simp; done) | (simp at hg ⊢; assumption)) | omega | decide | exact is2_c _ _ _ | exact is1_c _ _ | exact isS_c _ _ | exact isB_c _ _ | exact Nat.le_refl _ | assumption | exact mulLe (by decide) (by omega) | exact mulLe2 (by decide) (by omega) (by omega) | (intros; simp only [BL] at *; omega) | (intros; (try simp only [BL] at *); (try simp only [DL] at *); omega) | (intros; simp only [BL] at *; rw [wr_id (by omega) (by omega)]; omega) | (intros; simp_all; done))); conv => whnf)
    | (refine Or.inr (And.intro rfl ?_); first | (refine congrArg intV ?_) | (refine congrArg boolV ?_) | (refine tupII ?_ ?_) | (refine tupIII ?_ ?_ ?_) | (refine tupU ?_ ?_ ?_ ?_ ?_) | exact rfl))
  refine sem_loop tab_ok gamO1_ok mixed (by kernel_rfl) (O := lex) (fun i : Nat => ⟨[(8, intV i), (7, intV n), (0, .c (.sl 1 n (c1 x))), (1, .fn 75 [])], []⟩) (fun i => i ≤ n ∧ ∀ k, k < i → ngB x k = false) (fun i => n - i) ⟨0, [], ⟨Nat.zero_le _, fun k hk => absurd hk (Nat.not_lt_zero _)⟩, ?_⟩ fun i hi => ?_
  · refine Sub.of ?_ ?_ ?_
    repeat' (first | (refine And.intro ?_ ?_) | exact trivial | (exact congrArg intV (by assumption)) | (refine congrArg intV ((wr_id (by omega) (by omega)).trans (by omega))) | exact rfl | (simp only [Int.toNat_natCast, Int.toNat_zero, Nat.sub_zero, Nat.zero_add]; first | exact rfl | done) | exact all0 | exact fun h => Bool.noConfusion h | exact fun _ _ _ _ => rfl | omega)
  conv => whnf
  repeat' (first
    | (refine NilG.mk fun bn hbn => ?_; conv => whnf)
    | (refine Both.mk ?_ ?_ <;> conv => whnf)
    | exact trivial
    | (refine Br.mk (fun hb => ?_) (fun hb => ?_) <;> (first | (exfalso; revert hb; decide) | ((try simp only [BL] at hb) <;> (try simp only [DL] at hb) <;> conv => whnf)))
    | (refine And.intro ?_ ?_; (focus (first | exact id | exact rfl | exact trivial | (intro hg; first | exact hg | exact rfl | (simp; done) | (simp at hg ⊢; assumption)) | omega | decide | exact is2_c _ _ _ | exact is1_c _ _ | exact isS_c _ _ | exact isB_c _ _ | exact Nat.le_refl _ | assumption | exact mulLe (by decide) (by omega) | exact mulLe2 (by decide) (by omega) (by omega) | (intros; simp only [BL] at *; omega) | (intros; (try simp only [BL] at *); (try simp only [DL] at *); omega) | (intros; simp only [BL] at *; rw [wr_id (by omega) (by omega)]; omega) | (intros; simp_all; done))); conv => whnf)
    | (refine Or.inr (And.intro rfl ?_); first | (refine congrArg intV ?_) | (refine congrArg boolV ?_) | (refine tupII ?_ ?_) | (refine tupIII ?_ ?_ ?_) | (refine tupU ?_ ?_ ?_ ?_ ?_) | exact rfl))
  · refine CallG.mk (Fn.mono (f75 _) ?_)
    rintro obs r ⟨rfl, rfl⟩
    conv => whnf
    repeat' (first
      | (refine NilG.mk fun bn hbn => ?_; conv => whnf)
      | (refine Both.mk ?_ ?_ <;> conv => whnf)
      | exact trivial
      | (refine Br.mk (fun hb => ?_) (fun hb => ?_) <;> (first | (exfalso; revert hb; decide) | ((try simp only [BL] at hb) <;> (try simp only [DL] at hb) <;> conv => whnf)))
      | (refine And.intro ?_ ?_; (focus (first | exact id | exact rfl | exact trivial | (intro hg; first | exact hg | exact rfl | (simp; done) | (simp at hg ⊢; assumption)) | omega | decide | exact is2_c _ _ _ | exact is1_c _ _ | exact isS_c _ _ | exact isB_c _ _ | exact Nat.le_refl _ | assumption | exact mulLe (by decide) (by omega) | exact mulLe2 (by decide) (by omega) (by omega) | (intros; simp only [BL] at *; omega) | (intros; (try simp only [BL] at *); (try simp only [DL] at *); omega) | (intros; simp only [BL] at *; rw [wr_id (by omega) (by omega)]; omega) | (intros; simp_all; done))); conv => whnf)
      | (refine Or.inr (And.intro rfl ?_); first | (refine congrArg intV ?_) | (refine congrArg boolV ?_) | (refine tupII ?_ ?_) | (refine tupIII ?_ ?_ ?_) | (refine tupU ?_ ?_ ?_ ?_ ?_) | exact rfl))
    · have h1 : ngB x i = true := decide_eq_true hb
      exact (fidx_at hi.2 h1 (by omega)).symm
    · have h1 : ngB x i = false := decide_eq_false hb
      refine ⟨i + 1, [], ⟨by omega, fun k hk => by rcases Nat.lt_succ_iff_lt_or_eq.1 hk with h | rfl <;> first | exact hi.2 k h | exact h1⟩, by omega, ?_⟩
      refine Sub.of ?_ ?_ ?_
      repeat' (first | (refine And.intro ?_ ?_) | exact trivial | (exact congrArg intV (by assumption)) | (refine congrArg intV ((wr_id (by omega) (by omega)).trans (by omega))) | exact rfl | (simp only [Int.toNat_natCast, Int.toNat_zero, Nat.sub_zero, Nat.zero_add]; first | exact rfl | done) | exact all0 | exact fun h => Bool.noConfusion h | exact fun _ _ _ _ => rfl | omega)
  · obtain rfl : i = n := by omega
    exact (fidx_none hi.2).symm
theorem idxPs (n : Nat) (x : Nat → Int) (hn : n ≤ 1000) : Fn1 Try.prog 74 [.c (.sl 1 n (c1 x)), .fn 76 []] (intV (fidx (psB x) n)) := by
  refine fn_of_wpx (O := lex) tab_ok gamO1_ok mixed Try.func74 (by kernel_rfl) rfl rfl rfl (by simp [Try.ntmps74]) (by kernel_rfl) ?_
  conv => whnf
  repeat' (first
    | (refine NilG.mk fun bn hbn => ?_; conv => whnf)
    | (refine Both.mk ?_ ?_ <;> conv => whnf)
    | exact trivial
    | (refine Br.mk (fun hb => ?_) (fun hb => ?_) <;> (first | (exfalso; revert hb; decide) | ((try simp only [BL] at hb) <;> (try simp only [DL] at hb) <;> conv => whnf)))
    | (refine And.intro ?_ ?_; (focus (first | exact id | exact rfl | exact trivial | (intro hg; first | exact hg | exact rfl | (simp; done) | (simp at hg ⊢; assumption)) | omega | decide | exact is2_c _ _ _ | exact is1_c _ _ | exact isS_c _ _ | exact isB_c _ _ | exact Nat.le_refl _ | assumption | exact mulLe (by decide) (by omega) | exact mulLe2 (by decide) (by omega) (by omega) | (intros; simp only [BL] at *; omega) | (intros; (try simp only [BL] at *); (try simp only [DL] at *); omega) | (intros; simp only [BL] at *; rw [wr_id (by omega) (by omega)]; omega) | (intros; simp_all; done))); conv => whnf)
    | (refine Or.inr (And.intro rfl ?_); first | (refine congrArg intV ?_) | (refine congrArg boolV ?_) | (refine tupII ?_ ?_) | (refine tupIII ?_ ?_ ?_) | (refine tupU ?_ ?_ ?_ ?_ ?_) | exact rfl))
  refine sem_loop tab_ok gamO1_ok mixed (by kernel_rfl) (O := lex) (fun i : Nat => ⟨[(8, intV i), (7, intV n), (0, .c (.sl 1 n (c1 x))), (1, .fn 76 [])], []⟩) (fun i => i ≤ n ∧ ∀ k, k < i → psB x k = false) (fun i => n - i) ⟨0, [], ⟨Nat.zero_le _, fun k hk => absurd hk (Nat.not_lt_zero _)⟩, ?_⟩ fun i hi => ?_
  · refine Sub.of ?_ ?_ ?_
    repeat' (first | (refine And.intro ?_ ?_) | exact trivial | (exact congrArg intV (by assumption)) | (refine congrArg intV ((wr_id (by omega) (by omega)).trans (by omega))) | exact rfl | (simp only [Int.toNat_natCast, Int.toNat_zero, Nat.sub_zero, Nat.zero_add]; first | exact rfl | done) | exact all0 | exact fun h => Bool.noConfusion h | exact fun _ _ _ _ => rfl | omega)
  conv => whnf
  repeat' (first
    | (refine NilG.mk fun bn hbn => ?_; conv => whnf)
    | (refine Both.mk ?_ ?_ <;> conv => whnf)
    | exact trivial
    | (refine Br.mk (fun hb => ?_) (fun hb => ?_) <;> (first | (exfalso; revert hb; decide) | ((try simp only [BL] at hb) <;> (try simp only [DL] at hb) <;> conv => whnf)))
    | (refine And.intro ?_ ?_; (focus (first | exact id | exact rfl | exact trivial | (intro hg; first | exact hg | exact rfl | (simp; done) | (simp at hg ⊢; assumption)) | omega | decide | exact is2_c _ _ _ | exact is1_c _ _ | exact isS_c _ _ | exact isB_c _ _ | exact Nat.le_refl _ | assumption | exact mulLe (by decide) (by omega) | exact mulLe2 (by decide) (by omega) (by omega) | (intros; simp only [BL] at *; omega) | (intros; (try simp only [BL] at *); (try simp only [DL] at *); omega) | (intros; simp only [BL] at *; rw [wr_id (by omega) (by omega)]; omega) | (intros; simp_all; done))); conv => whnf)
    | (refine Or.inr (And.intro rfl ?_); first | (refine congrArg intV ?_) | (refine congrArg boolV ?_) | (refine tupII ?_ ?_) | (refine tupIII ?_ ?_ ?_) | (refine tupU ?_ ?_ ?_ ?_ ?_) | exact rfl))
  · refine CallG.mk (Fn.mono (f76 _) ?_)
    rintro obs r ⟨rfl, rfl⟩
    conv => whnf
    repeat' (first
      | (refine NilG.mk fun bn hbn => ?_; conv => whnf)
      | (refine Both.mk ?_ ?_ <;> conv => whnf)
      | exact trivial
      | (refine Br.mk (fun hb => ?_) (fun hb => ?_) <;> (first | (exfalso; revert hb; decide) | ((try simp only [BL] at hb) <;> (try simp only [DL] at hb) <;> conv => whnf)))
      | (refine And.intro ?_ ?_; (focus (first | exact id | exact rfl | exact trivial | (intro hg; first | exact hg | exact rfl | (simp; done) | (simp at hg ⊢; assumption)) | omega | decide | exact is2_c _ _ _ | exact is1_c _ _ | exact isS_c _ _ | exact isB_c _ _ | exact Nat.le_refl _ | assumption | exact mulLe (by decide) (by omega) | exact mulLe2 (by decide) (by omega) (by omega) | (intros; simp only [BL] at *; omega) | (intros; (try simp only [BL] at *); (try simp only [DL] at *); omega) | (intros; simp only [BL] at *; rw [wr_id (by omega) (by omega)]; omega) | (intros; simp_all; done))); conv => whnf)
      | (refine Or.inr (And.intro rfl ?_); first | (refine congrArg intV ?_) | (refine congrArg boolV ?_) | (refine tupII ?_ ?_) | (refine tupIII ?_ ?_ ?_) | (refine tupU ?_ ?_ ?_ ?_ ?_) | exact rfl))
    · have h1 : psB x i = true := decide_eq_true hb
      exact (fidx_at hi.2 h1 (by omega)).symm
    · have h1 : psB x i = false := decide_eq_false hb
      refine ⟨i + 1, [], ⟨by omega, fun k hk => by rcases Nat.lt_succ_iff_lt_or_eq.1 hk with h | rfl <;> first | exact hi.2 k h | exact h1⟩, by omega, ?_⟩
      refine Sub.of ?_ ?_ ?_
      repeat' (first | (refine And.intro ?_ ?_) | exact trivial | (exact congrArg intV (by assumption)) | (refine congrArg intV ((wr_id (by omega) (by omega)).trans (by omega))) | exact rfl | (simp only [Int.toNat_natCast, Int.toNat_zero, Nat.sub_zero, Nat.zero_add]; first | exact rfl | done) | exact all0 | exact fun h => Bool.noConfusion h | exact fun _ _ _ _ => rfl | omega)
  · obtain rfl : i = n := by omega
    exact (fidx_none hi.2).symm

theorem idxStr (n : Nat) (s : Nat → ByteArray) (nm : ByteArray) (hn : n ≤ 1000) : Fn1 Try.prog 95 [.c (.sl 1 n (cS s)), strV nm] (intV (fidx (sameN s nm) n)) := by
  refine fn_of_wpx (O := lex) tab_ok gamO1_ok mixed Try.func95 (by kernel_rfl) rfl rfl rfl (by simp [Try.ntmps95]) (by kernel_rfl) ?_
  conv => whnf
  repeat' (first
    | (refine NilG.mk fun bn hbn => ?_; conv => whnf)
    | (refine Both.mk ?_ ?_ <;> conv => whnf)
    | exact trivial
    | (refine Br.mk (fun hb => ?_) (fun hb => ?_) <;> (first | (exfalso; revert hb; decide) | ((try simp only [BL] at hb) <;> (try simp only [DL] at hb) <;> conv => whnf)))
    | (refine And.intro ?_ ?_; (focus (first | exact id | exact rfl | exact trivial | (intro hg; first | exact hg | exact rfl | (simp; done) | (simp at hg ⊢; assumption)) | omega | decide | exact is2_c _ _ _ | exact is1_c _ _ | exact isS_c _ _ | exact isB_c _ _ | exact Nat.le_refl _ | assumption | exact mulLe (by decide) (by omega) | exact mulLe2 (by decide) (by omega) (by omega) | (intros; simp only [BL] at *; omega) | (intros; (try simp only [BL] at *); (try simp only [DL] at *); omega) | (intros; simp only [BL] at *; rw [wr_id (by omega) (by omega)]; omega) | (intros; simp_all; done))); conv => whnf)
    | (refine Or.inr (And.intro rfl ?_); first | (refine congrArg intV ?_) | (refine congrArg boolV ?_) | (refine tupII ?_ ?_) | (refine tupIII ?_ ?_ ?_) | (refine tupU ?_ ?_ ?_ ?_ ?_) | exact rfl))
  refine sem_loop tab_ok gamO1_ok mixed (by kernel_rfl) (O := lex) (fun i : Nat => ⟨[(8, intV i), (7, intV n), (0, .c (.sl 1 n (cS s))), (1, strV nm)], []⟩) (fun i => i ≤ n ∧ ∀ k, k < i → sameN s nm k = false) (fun i => n - i) ⟨0, [], ⟨Nat.zero_le _, fun k hk => absurd hk (Nat.not_lt_zero _)⟩, ?_⟩ fun i hi => ?_
  · refine Sub.of ?_ ?_ ?_
    repeat' (first | (refine And.intro ?_ ?_) | exact trivial | (exact congrArg intV (by assumption)) | (refine congrArg intV ((wr_id (by omega) (by omega)).trans (by omega))) | exact rfl | (simp only [Int.toNat_natCast, Int.toNat_zero, Nat.sub_zero, Nat.zero_add]; first | exact rfl | done) | exact all0 | exact fun h => Bool.noConfusion h | exact fun _ _ _ _ => rfl | omega)
  conv => whnf
  repeat' (first
    | (refine NilG.mk fun bn hbn => ?_; conv => whnf)
    | (refine Both.mk ?_ ?_ <;> conv => whnf)
    | exact trivial
    | (refine Br.mk (fun hb => ?_) (fun hb => ?_) <;> (first | (exfalso; revert hb; decide) | ((try simp only [BL] at hb) <;> (try simp only [DL] at hb) <;> conv => whnf)))
    | (refine And.intro ?_ ?_; (focus (first | exact id | exact rfl | exact trivial | (intro hg; first | exact hg | exact rfl | (simp; done) | (simp at hg ⊢; assumption)) | omega | decide | exact is2_c _ _ _ | exact is1_c _ _ | exact isS_c _ _ | exact isB_c _ _ | exact Nat.le_refl _ | assumption | exact mulLe (by decide) (by omega) | exact mulLe2 (by decide) (by omega) (by omega) | (intros; simp only [BL] at *; omega) | (intros; (try simp only [BL] at *); (try simp only [DL] at *); omega) | (intros; simp only [BL] at *; rw [wr_id (by omega) (by omega)]; omega) | (intros; simp_all; done))); conv => whnf)
    | (refine Or.inr (And.intro rfl ?_); first | (refine congrArg intV ?_) | (refine congrArg boolV ?_) | (refine tupII ?_ ?_) | (refine tupIII ?_ ?_ ?_) | (refine tupU ?_ ?_ ?_ ?_ ?_) | exact rfl))
  · have h1 : sameN s nm i = true := by unfold sameN; rw [beq_iff_eq] at hb ⊢; exact hb.symm
    exact (fidx_at hi.2 h1 (by omega)).symm
  · have h1 : sameN s nm i = false := by
      unfold sameN
      rw [beq_eq_false_iff_ne] at hb ⊢
      exact fun h => hb h.symm
    refine ⟨i + 1, [], ⟨by omega, fun k hk => by rcases Nat.lt_succ_iff_lt_or_eq.1 hk with h | rfl <;> first | exact hi.2 k h | exact h1⟩, by omega, ?_⟩
    refine Sub.of ?_ ?_ ?_
    repeat' (first | (refine And.intro ?_ ?_) | exact trivial | (exact congrArg intV (by assumption)) | (refine congrArg intV ((wr_id (by omega) (by omega)).trans (by omega))) | exact rfl | (simp only [Int.toNat_natCast, Int.toNat_zero, Nat.sub_zero, Nat.zero_add]; first | exact rfl | done) | exact all0 | exact fun h => Bool.noConfusion h | exact fun _ _ _ _ => rfl | omega)
  · obtain rfl : i = n := by omega
    exact (fidx_none hi.2).symm

theorem contStr (n : Nat) (s : Nat → ByteArray) (nm : ByteArray) (hn : n ≤ 1000) : Fn1 Try.prog 72 [.c (.sl 1 n (cS s)), strV nm] (boolV (dupB s nm n)) := by
  refine fn_of_wpx (O := lex) tab_ok gamO1_ok mixed Try.func72 (by kernel_rfl) rfl rfl rfl (by simp [Try.ntmps72]) (by kernel_rfl) ?_
  conv => whnf
  repeat' (first
    | (refine NilG.mk fun bn hbn => ?_; conv => whnf)
    | (refine Both.mk ?_ ?_ <;> conv => whnf)
    | exact trivial
    | (refine Br.mk (fun hb => ?_) (fun hb => ?_) <;> (first | (exfalso; revert hb; decide) | ((try simp only [BL] at hb) <;> (try simp only [DL] at hb) <;> conv => whnf)))
    | (refine And.intro ?_ ?_; (focus (first | exact id | exact rfl | exact trivial | (intro hg; first | exact hg | exact rfl | (simp; done) | (simp at hg ⊢; assumption)) | omega | decide | exact is2_c _ _ _ | exact is1_c _ _ | exact isS_c _ _ | exact isB_c _ _ | exact Nat.le_refl _ | assumption | exact mulLe (by decide) (by omega) | exact mulLe2 (by decide) (by omega) (by omega) | (intros; simp only [BL] at *; omega) | (intros; (try simp only [BL] at *); (try simp only [DL] at *); omega) | (intros; simp only [BL] at *; rw [wr_id (by omega) (by omega)]; omega) | (intros; simp_all; done))); conv => whnf)
    | (refine Or.inr (And.intro rfl ?_); first | (refine congrArg intV ?_) | (refine congrArg boolV ?_) | (refine tupII ?_ ?_) | (refine tupIII ?_ ?_ ?_) | (refine tupU ?_ ?_ ?_ ?_ ?_) | exact rfl))
  refine CallG.mk (Fn.mono (idxStr n s nm hn) ?_)
  rintro obs r ⟨rfl, rfl⟩
  conv => whnf
  repeat' (first
    | (refine NilG.mk fun bn hbn => ?_; conv => whnf)
    | (refine Both.mk ?_ ?_ <;> conv => whnf)
    | exact trivial
    | (refine Br.mk (fun hb => ?_) (fun hb => ?_) <;> (first | (exfalso; revert hb; decide) | ((try simp only [BL] at hb) <;> (try simp only [DL] at hb) <;> conv => whnf)))
    | (refine And.intro ?_ ?_; (focus (first | exact id | exact rfl | exact trivial | (intro hg; first | exact hg | exact rfl | (simp; done) | (simp at hg ⊢; assumption)) | omega | decide | exact is2_c _ _ _ | exact is1_c _ _ | exact isS_c _ _ | exact isB_c _ _ | exact Nat.le_refl _ | assumption | exact mulLe (by decide) (by omega) | exact mulLe2 (by decide) (by omega) (by omega) | (intros; simp only [BL] at *; omega) | (intros; (try simp only [BL] at *); (try simp only [DL] at *); omega) | (intros; simp only [BL] at *; rw [wr_id (by omega) (by omega)]; omega) | (intros; simp_all; done))); conv => whnf)
    | (refine Or.inr (And.intro rfl ?_); first | (refine congrArg intV ?_) | (refine congrArg boolV ?_) | (refine tupII ?_ ?_) | (refine tupIII ?_ ?_ ?_) | (refine tupU ?_ ?_ ?_ ?_ ?_) | exact rfl))
  · rfl

/-- what Clone hands back -/
def clK (n : Nat) (x : Nat → Int) (obs : List OB) (r : AV) : Prop := (obs = [.row 3 1 n false (c1 x)] ∧ r = .own 0) ∨ (n = 0 ∧ obs = [] ∧ r = .c (.v (.slice none 0 0)))
theorem cloneI (n : Nat) (x : Nat → Int) (hn : n ≤ 1000) : Fn Try.prog 73 [.c (.sl 1 n (c1 x))] (clK n x) := by
  refine fn_of_wpx (O := lex) tab_ok gamO1_ok mixed Try.func73 (by kernel_rfl) rfl rfl rfl (by simp [Try.ntmps73]) (by kernel_rfl) ?_
  conv => whnf
  repeat' (first
    | (refine NilG.mk fun bn hbn => ?_; conv => whnf)
    | (refine Both.mk ?_ ?_ <;> conv => whnf)
    | exact trivial
    | (refine Br.mk (fun hb => ?_) (fun hb => ?_) <;> (first | (exfalso; revert hb; decide) | ((try simp only [BL] at hb) <;> (try simp only [DL] at hb) <;> conv => whnf)))
    | (refine And.intro ?_ ?_; (focus (first | exact id | exact rfl | exact trivial | (intro hg; first | exact hg | exact rfl | (simp; done) | (simp at hg ⊢; assumption)) | omega | decide | exact is2_c _ _ _ | exact is1_c _ _ | exact isS_c _ _ | exact isB_c _ _ | exact Nat.le_refl _ | assumption | exact mulLe (by decide) (by omega) | exact mulLe2 (by decide) (by omega) (by omega) | (intros; simp only [BL] at *; omega) | (intros; (try simp only [BL] at *); (try simp only [DL] at *); omega) | (intros; simp only [BL] at *; rw [wr_id (by omega) (by omega)]; omega) | (intros; simp_all; done))); conv => whnf)
    | (refine Or.inr (And.intro rfl ?_); first | (refine congrArg intV ?_) | (refine congrArg boolV ?_) | (refine tupII ?_ ?_) | (refine tupIII ?_ ?_ ?_) | (refine tupU ?_ ?_ ?_ ?_ ?_) | exact rfl))
  · exact .inr (.inr ⟨hbn (by simpa using hb), rfl, rfl⟩)
  · refine .inl ⟨[1], [.row 3 1 n false (c1 x)], .own 0, rfl, ?_, rfl, rfl, .inl ⟨rfl, rfl⟩⟩
    repeat' (first | (refine And.intro ?_ ?_) | exact trivial | exact rfl | exact (Nat.zero_add _).symm | exact fun h => Bool.noConfusion h | exact fun _ _ _ _ => rfl | omega)

theorem ffind_no {b : Nat → Bool} : ∀ {n : Nat}, ffind b n = none → ∀ k, k < n → b k = false
  | n + 1, h, k, hk => by
    simp only [ffind] at h
    split at h
    · cases h
    · rename_i h0
      split at h
      · cases h
      · rename_i h1
        rcases Nat.lt_succ_iff_lt_or_eq.1 hk with hlt | rfl
        · exact ffind_no h0 k hlt
        · simpa using h1
theorem ffind_some {b : Nat → Bool} {i : Nat} : ∀ {n : Nat}, ffind b n = some i → i < n ∧ b i = true ∧ ∀ k, k < i → b k = false
  | n + 1, h => by
    simp only [ffind] at h
    split at h
    · rename_i h0
      injection h with h; subst h
      obtain ⟨h1, h2⟩ := ffind_some h0
      exact ⟨by omega, h2⟩
    · rename_i h0
      split at h
      · rename_i hb
        injection h with h; subst h
        exact ⟨by omega, hb, ffind_no h0⟩
      · cases h
theorem fidx_in {b : Nat → Bool} {n : Nat} (h : fidx b n ≥ 0) : (fidx b n).toNat < n ∧ fidx b n = ((fidx b n).toNat : Int) ∧ b (fidx b n).toNat = true ∧ ∀ k, k < (fidx b n).toNat → b k = false := by
  cases hf : ffind b n with
  | none => unfold fidx at h; rw [hf] at h; exact absurd h (by decide)
  | some i =>
    have e : fidx b n = i := by unfold fidx; rw [hf]
    rw [e, Int.toNat_natCast]
    obtain ⟨h1, h2, h3⟩ := ffind_some hf
    exact ⟨h1, rfl, h2, h3⟩
theorem fidx_out {b : Nat → Bool} {n : Nat} (h : ¬ fidx b n ≥ 0) : ∀ k, k < n → b k = false := by
  cases hf : ffind b n with
  | none => exact ffind_no hf
  | some i =>
    have e : fidx b n = i := by unfold fidx; rw [hf]
    omega

/-- the one that has too little, the one that has too much, and what is moved -/
def loI (n : Nat) (b : Nat → Int) : Nat := (fidx (ngB b) n).toNat
def hiI (n : Nat) (b : Nat → Int) : Nat := (fidx (psB b) n).toNat
def dE (n : Nat) (b : Nat → Int) : Int := min (-(b (loI n b))) (b (hiI n b))
def stp (n : Nat) (b : Nat → Int) : Nat → Int := fun a => if a = hiI n b then b a - dE n b else if a = loI n b then b a + dE n b else b a
def bal (n : Nat) (x : Nat → Int) : Nat → Nat → Int
  | 0 => x
  | j + 1 => stp n (bal n x j)
def goes (n : Nat) (b : Nat → Int) : Prop := fidx (ngB b) n ≥ 0 ∧ fidx (psB b) n ≥ 0
def cEn (s : Nat → ByteArray) (n : Nat) (x : Nat → Int) : Nat → Nat → L := fun j b => [sL (s (loI n (bal n x j))), sL (s (hiI n (bal n x j))), iL (dE n (bal n x j))].getD b .un
theorem goes_in {n : Nat} {b : Nat → Int} (h : goes n b) : loI n b < n ∧ hiI n b < n ∧ b (loI n b) < 0 ∧ 0 < b (hiI n b) ∧ loI n b ≠ hiI n b ∧ (∀ k, k < loI n b → 0 ≤ b k) ∧ (∀ k, k < hiI n b → b k ≤ 0) ∧ fidx (ngB b) n = (loI n b : Int) ∧ fidx (psB b) n = (hiI n b : Int) := by
  obtain ⟨h1, h2, h3, h4⟩ := fidx_in h.1
  obtain ⟨k1, k2, k3, k4⟩ := fidx_in h.2
  have a1 : b (loI n b) < 0 := of_decide_eq_true h3
  have a2 : b (hiI n b) > 0 := of_decide_eq_true k3
  refine ⟨h1, k1, a1, a2, fun e => by rw [e] at a1; omega, fun k hk => ?_, fun k hk => ?_, h2, k2⟩
  · have := of_decide_eq_false (h4 k hk); omega
  · have := of_decide_eq_false (k4 k hk); omega
theorem stp_lo {n : Nat} {b : Nat → Int} (h : goes n b) : stp n b (loI n b) = b (loI n b) + dE n b := by
  unfold stp
  rw [if_neg (goes_in h).2.2.2.2.1, if_pos rfl]
theorem stp_hi {n : Nat} {b : Nat → Int} : stp n b (hiI n b) = b (hiI n b) - dE n b := if_pos rfl
theorem stp_else {n : Nat} {b : Nat → Int} {a : Nat} (h1 : a ≠ loI n b) (h2 : a ≠ hiI n b) : stp n b a = b a := by
  unfold stp
  rw [if_neg h2, if_neg h1]
theorem stp_le {n : Nat} {b : Nat → Int} {M : Int} (h : goes n b) (hb : ∀ a, a < n → -M ≤ b a ∧ b a ≤ M) : ∀ a, a < n → -M ≤ stp n b a ∧ stp n b a ≤ M := fun a ha => by
  obtain ⟨h1, h2, h3, h4, _⟩ := goes_in h
  have b1 := hb _ h1
  have b2 := hb _ h2
  by_cases e1 : a = loI n b
  · rw [e1, stp_lo h]; unfold dE; omega
  · by_cases e2 : a = hiI n b
    · rw [e2, stp_hi]; unfold dE; omega
    · rw [stp_else e1 e2]; exact hb a ha
theorem S_upd1 {b b' : Nat → Int} {i : Nat} {d : Int} (h1 : b' i = b i + d) (h2 : ∀ a, a ≠ i → b' a = b a) : ∀ n, S b' n = S b n + if i < n then d else 0
  | 0 => by simp [S]
  | n + 1 => by
    have ih := S_upd1 h1 h2 n
    simp only [S]
    rcases Nat.lt_trichotomy i n with h | rfl | h
    · rw [ih, h2 n (by omega), if_pos h, if_pos (by omega)]; omega
    · rw [ih, h1, if_neg (by omega), if_pos (by omega)]; omega
    · rw [ih, h2 n (by omega), if_neg (by omega), if_neg (by omega)]; omega
theorem stp_S {n : Nat} {b : Nat → Int} (h : goes n b) : S (stp n b) n = S b n := by
  obtain ⟨h1, h2, h3, h4, h5, _⟩ := goes_in h
  let c : Nat → Int := fun a => if a = loI n b then b a + dE n b else b a
  have e1 := S_upd1 (b := b) (b' := c) (i := loI n b) (d := dE n b) (if_pos rfl) (fun a ha => if_neg ha) n
  have e2 := S_upd1 (b := c) (b' := stp n b) (i := hiI n b) (d := -dE n b) (by rw [stp_hi, show c (hiI n b) = b (hiI n b) from if_neg (Ne.symm h5)]; omega) (fun a ha => by unfold stp; rw [if_neg ha]) n
  rw [if_pos h1] at e1
  rw [if_pos h2] at e2
  omega

/-- how many are not 0 -/
def cz (b : Nat → Int) : Nat → Nat
  | 0 => 0
  | k + 1 => cz b k + if b k = 0 then 0 else 1
theorem cz_le {b : Nat → Int} : ∀ n, cz b n ≤ n
  | 0 => Nat.le_refl _
  | n + 1 => by have := cz_le (b := b) n; simp only [cz]; split <;> omega
theorem cz_mono {b b' : Nat → Int} : ∀ {n : Nat}, (∀ a, a < n → b' a ≠ 0 → b a ≠ 0) → cz b' n ≤ cz b n
  | 0, _ => Nat.le_refl _
  | n + 1, h => by
    have := cz_mono (n := n) fun a ha => h a (by omega)
    have h1 := h n (by omega)
    simp only [cz]
    by_cases e : b' n = 0
    · rw [if_pos e]; omega
    · rw [if_neg e, if_neg (h1 e)]; omega
theorem cz_lt {b b' : Nat → Int} : ∀ {n : Nat}, (∀ a, a < n → b' a ≠ 0 → b a ≠ 0) → (∃ a, a < n ∧ b a ≠ 0 ∧ b' a = 0) → cz b' n + 1 ≤ cz b n
  | 0, _, ⟨a, ha, _⟩ => absurd ha (Nat.not_lt_zero a)
  | n + 1, h, ⟨a, ha, e1, e2⟩ => by
    simp only [cz]
    rcases Nat.lt_succ_iff_lt_or_eq.1 ha with hlt | rfl
    · have := cz_lt (n := n) (fun a ha => h a (by omega)) ⟨a, hlt, e1, e2⟩
      have h1 := h n (by omega)
      by_cases e : b' n = 0
      · rw [if_pos e]; omega
      · rw [if_neg e, if_neg (h1 e)]; omega
    · have := cz_mono (n := a) fun k hk => h k (by omega)
      rw [if_pos e2, if_neg e1]; omega
theorem cz_pos {b : Nat → Int} {a n : Nat} (ha : a < n) (h : b a ≠ 0) : 1 ≤ cz b n := by
  have := cz_lt (b := b) (b' := fun _ => 0) (n := n) (fun _ _ h => absurd rfl h) ⟨a, ha, h, rfl⟩
  omega
theorem cz_two {b : Nat → Int} {a c n : Nat} (ha : a < n) (hc : c < n) (hne : a ≠ c) (h1 : b a ≠ 0) (h2 : b c ≠ 0) : 2 ≤ cz b n := by
  have e1 := cz_lt (b := b) (b' := fun k => if k = a then 0 else b k) (n := n) (fun k _ h => by by_cases e : k = a <;> simp_all) ⟨a, ha, h1, if_pos rfl⟩
  have e2 := cz_pos (b := fun k => if k = a then 0 else b k) hc (by rw [if_neg (Ne.symm hne)]; exact h2)
  omega
theorem stp_cz {n : Nat} {b : Nat → Int} (h : goes n b) : cz (stp n b) n + 1 ≤ cz b n := by
  obtain ⟨h1, h2, h3, h4, h5, _⟩ := goes_in h
  refine cz_lt (fun a _ hne => ?_) ?_
  · by_cases e1 : a = loI n b
    · rw [e1]; omega
    · by_cases e2 : a = hiI n b
      · rw [e2]; omega
      · rwa [stp_else e1 e2] at hne
  · by_cases hd : -(b (loI n b)) ≤ b (hiI n b)
    · exact ⟨_, h1, by omega, by rw [stp_lo h]; unfold dE; omega⟩
    · exact ⟨_, h2, by omega, by rw [stp_hi]; unfold dE; omega⟩
end Go.Proofs.Ytogibhkbckfgbaa
