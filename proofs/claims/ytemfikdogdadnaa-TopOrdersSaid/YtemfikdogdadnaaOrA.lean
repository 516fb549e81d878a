/-
  Orders: the number of a list of states; an operation.
-/
import Derived.Test.YtemfikdogdadnaaOrP
namespace Go.Proofs.Ytemfikdogdadnaa
open Go.RowKit

/-- bit i: whether switch i is closed -/
def codN (cl : Nat → Bool) : Nat → Nat
  | 0 => 0
  | i + 1 => codN cl i + if cl i = true then 2 ^ i else 0
theorem codN_lt (cl : Nat → Bool) : ∀ i, codN cl i < 2 ^ i
  | 0 => Nat.one_pos
  | i + 1 => by
    have := codN_lt cl i
    rw [Nat.pow_succ]
    unfold codN
    split <;> omega
theorem or8 : ∀ i : Nat, i < 8 → ∀ a : Nat, a < 2 ^ i → orI .i64 (a : Int) (shlI .i64 1 (i : Int)) = ((a + 2 ^ i : Nat) : Int) := by decide +kernel
theorem xor8 : ∀ i : Nat, i < 8 → ∀ a : Nat, a < 256 → xorI .i64 (a : Int) (shlI .i64 1 (i : Int)) = ((a ^^^ 2 ^ i : Nat) : Int) := by decide +kernel
theorem bit8 : ∀ i : Nat, i < 8 → ∀ a : Nat, a < 256 → (andI .i64 (shrI .i64 (a : Int) (i : Int)) 1 == 1) = a.testBit i := by decide +kernel
theorem testBit_codN (cl : Nat → Bool) : ∀ (n i : Nat), i < n → (codN cl n).testBit i = cl i
  | 0, _, h => absurd h (Nat.not_lt_zero _)
  | n + 1, i, h => by
    unfold codN
    have hlt := codN_lt cl n
    rcases Nat.lt_succ_iff_lt_or_eq.1 h with h1 | rfl
    · split
      · rw [Nat.add_comm, Nat.testBit_two_pow_add_gt h1]
        exact testBit_codN cl n i h1
      · exact testBit_codN cl n i h1
    · split
      · rename_i hc
        rw [Nat.add_comm, Nat.testBit_two_pow_add_eq, Nat.testBit_lt_two_pow hlt, hc]
        rfl
      · rename_i hc
        rw [Nat.add_zero, Nat.testBit_lt_two_pow hlt]
        exact (Bool.not_eq_true _ ▸ hc).symm
theorem codN_bits {c n : Nat} (hc : c < 2 ^ n) : codN (fun i => c.testBit i) n = c := bits_eq (codN_lt _ _) hc fun i hi => testBit_codN _ n i hi
/-- the states with number c -/
abbrev stC (n : Nat) (nm : Nat → ByteArray) (c : Nat) : Sts := ⟨n, nm, fun i => c.testBit i⟩
theorem stC_le (s : Sts) : Le1 (stV s) (stV (stC s.n s.nm (codN s.cl s.n))) := Le1.sl fun k hk j hj => match j, hj with
  | 0, _ => rfl
  | 1, _ => congrArg bL (testBit_codN s.cl s.n k hk).symm
theorem orCode (s : Sts) (hn : s.n ≤ 8) : Fn1 Try.prog 44 [stV s] (intV (codN s.cl s.n)) := by
  refine fn_of_wpx (O := lex) tab_ok (Γ := fun _ => none) (fun _ _ h => by cases h) mixed Try.func44 (by kernel_rfl) rfl rfl rfl (by simp [Try.ntmps44]) (by kernel_rfl) ?_
  conv => whnf
  repeat' (first
    | (refine NilG.mk fun bn hbn hbx => ?_; conv => whnf)
    | (refine Both.mk ?_ ?_ <;> conv => whnf)
    | ((first | (refine MkG.box 1 rfl rfl rfl (by decide) ?_) | (refine MkG.box 2 rfl rfl rfl (by decide) ?_) | (refine MkG.box 3 rfl rfl rfl (by decide) ?_) | (refine MkG.row ?_)); conv => whnf)
    | exact trivial
    | (refine Br.mk (fun hb => ?_) (fun hb => ?_) <;> (first | (exfalso; revert hb; decide) | ((try simp only [BL] at hb) <;> (try simp only [DL] at hb) <;> conv => whnf)))
    | (refine And.intro ?_ ?_; (focus (first | exact id | exact rfl | exact trivial | (intro hg; first | exact hg | exact rfl | (simp; done) | (simp at hg ⊢; assumption)) | omega | decide | exact is2_c _ _ _ | exact is1_c _ _ | exact isS_c _ _ | exact isB_c _ _ | exact Nat.le_refl _ | assumption | exact mulLe (by decide) (by omega) | exact mulLe2 (by decide) (by omega) (by omega) | (intros; simp only [BL] at *; omega) | (intros; (try simp only [BL] at *); (try simp only [DL] at *); omega) | (intros; simp only [BL] at *; rw [wr_id (by omega) (by omega)]; omega) | (intro h1 h2; exact Bool.and_eq_true_iff.2 ⟨h1, h2⟩) | (intros; simp_all; done))); conv => whnf)
    | (refine Or.inr (And.intro rfl ?_); first | (refine congrArg intV ?_) | (refine congrArg boolV ?_) | (refine tupII ?_ ?_) | (refine tupIII ?_ ?_ ?_) | (refine tupU ?_ ?_ ?_ ?_ ?_) | exact rfl))
  refine sem_loop tab_ok gamI1_ok mixed (by kernel_rfl) (O := lex) (fun i : Nat => ⟨[(3, intV (codN s.cl i)), (6, stV s), (7, intV s.n), (8, intV i)], []⟩) (fun i => i ≤ s.n) (fun i => s.n - i) ⟨0, [], Nat.zero_le _, ?_⟩ fun i hi => ?_
  · refine Sub.of ?_ ?_ ?_
    repeat' (first | (refine And.intro ?_ ?_) | exact trivial | exact fun _ _ _ => hsc _ _ | (exact congrArg intV (by first | with_reducible rfl | with_reducible assumption)) | exact (rfl : AV.idsLt _ _ = true) | exact (rfl : _ = AV.ren _ (.own _)) | exact (rfl : _ = AV.ren _ (.fn _ _)) | exact (rfl : _ = AV.ren _ (.gh _)) | (exact congrArg intV (by assumption)) | (refine congrArg intV ((wr_id (by omega) (by omega)).trans (by omega))) | exact rfl | (simp only [Int.toNat_natCast, Int.toNat_zero, Nat.sub_zero, Nat.zero_add]; first | exact rfl | done) | exact all0 | exact fun h => Bool.noConfusion h | exact fun _ _ _ _ => rfl | omega)
  conv => whnf
  repeat' (first
    | (refine NilG.mk fun bn hbn hbx => ?_; conv => whnf)
    | (refine Both.mk ?_ ?_ <;> conv => whnf)
    | ((first | (refine MkG.box 1 rfl rfl rfl (by decide) ?_) | (refine MkG.box 2 rfl rfl rfl (by decide) ?_) | (refine MkG.box 3 rfl rfl rfl (by decide) ?_) | (refine MkG.row ?_)); conv => whnf)
    | exact trivial
    | (refine Br.mk (fun hb => ?_) (fun hb => ?_) <;> (first | (exfalso; revert hb; decide) | ((try simp only [BL] at hb) <;> (try simp only [DL] at hb) <;> (first | (exfalso; omega) | (conv => whnf)))))
    | (refine And.intro ?_ ?_; (focus (first | exact id | exact rfl | exact trivial | (intro hg; first | exact hg | exact rfl | (simp; done) | (simp at hg ⊢; assumption)) | omega | decide | exact is2_c _ _ _ | exact is1_c _ _ | exact isS_c _ _ | exact isB_c _ _ | exact Nat.le_refl _ | assumption | exact mulLe (by decide) (by omega) | exact mulLe2 (by decide) (by omega) (by omega) | (intros; simp only [BL] at *; omega) | (intros; (try simp only [BL] at *); (try simp only [DL] at *); omega) | (intros; simp only [BL] at *; rw [wr_id (by omega) (by omega)]; omega) | (intro h1 h2; exact Bool.and_eq_true_iff.2 ⟨h1, h2⟩) | exact ⟨rfl, by omega, by decide⟩ | (intros; simp_all; done))); conv => whnf)
    | (refine Or.inr (And.intro rfl ?_); first | (refine congrArg intV ?_) | (refine congrArg boolV ?_) | (refine tupII ?_ ?_) | (refine tupIII ?_ ?_ ?_) | (refine tupU ?_ ?_ ?_ ?_ ?_) | exact rfl))
  · have e3 : orI .i64 (codN s.cl i : Int) (shlI .i64 1 (i : Int)) = ((codN s.cl (i + 1) : Nat) : Int) := by
      rw [or8 i (by omega) _ (codN_lt s.cl i)]
      show _ = ((codN s.cl i + if s.cl i = true then 2 ^ i else 0 : Nat) : Int)
      rw [if_pos hb]
    refine ⟨i + 1, [], (by omega : i + 1 ≤ s.n), by omega, ?_⟩
    refine Sub.of ?_ ?_ ?_
    repeat' (first | (refine And.intro ?_ ?_) | exact trivial | exact fun _ _ _ => hsc _ _ | (exact congrArg intV (by first | with_reducible rfl | with_reducible assumption)) | exact (rfl : AV.idsLt _ _ = true) | exact (rfl : _ = AV.ren _ (.own _)) | exact (rfl : _ = AV.ren _ (.fn _ _)) | exact (rfl : _ = AV.ren _ (.gh _)) | (exact congrArg intV (by assumption)) | (refine congrArg intV ((wr_id (by omega) (by omega)).trans (by omega))) | exact rfl | (simp only [Int.toNat_natCast, Int.toNat_zero, Nat.sub_zero, Nat.zero_add]; first | exact rfl | done) | exact all0 | exact fun h => Bool.noConfusion h | exact fun _ _ _ _ => rfl | omega)
  · have e3 : (codN s.cl i : Int) = ((codN s.cl (i + 1) : Nat) : Int) := by
      show _ = ((codN s.cl i + if s.cl i = true then 2 ^ i else 0 : Nat) : Int)
      rw [hb]
      rfl
    refine ⟨i + 1, [], (by omega : i + 1 ≤ s.n), by omega, ?_⟩
    refine Sub.of ?_ ?_ ?_
    repeat' (first | (refine And.intro ?_ ?_) | exact trivial | exact fun _ _ _ => hsc _ _ | (exact congrArg intV (by first | with_reducible rfl | with_reducible assumption)) | exact (rfl : AV.idsLt _ _ = true) | exact (rfl : _ = AV.ren _ (.own _)) | exact (rfl : _ = AV.ren _ (.fn _ _)) | exact (rfl : _ = AV.ren _ (.gh _)) | (exact congrArg intV (by assumption)) | (refine congrArg intV ((wr_id (by omega) (by omega)).trans (by omega))) | exact rfl | (simp only [Int.toNat_natCast, Int.toNat_zero, Nat.sub_zero, Nat.zero_add]; first | exact rfl | done) | exact all0 | exact fun h => Bool.noConfusion h | exact fun _ _ _ _ => rfl | omega)
  · obtain rfl : i = s.n := by omega
    rfl
theorem orCodeC (n : Nat) (nm : Nat → ByteArray) (c : Nat) (hn : n ≤ 8) (hc : c < 2 ^ n) : Fn1 Try.prog 44 [stV (stC n nm c)] (intV c) := by
  have h := orCode (stC n nm c) hn
  rw [show codN (stC n nm c).cl (stC n nm c).n = c from codN_bits hc] at h
  exact h
end Go.Proofs.Ytemfikdogdadnaa
