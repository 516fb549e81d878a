/-
  RampRanges: the law, walked.
-/
import Derived.Test.YtemfikdogdadnaaRrB
namespace Go.Proofs.Ytemfikdogdadnaa
open Go.RowKit

def raK2 (s : Rmr) (obs : List OB) (r : AV) : Prop := obs = [] ∧ ∃ n P Q e, r = .tup [.c (.sl 2 n (c2 P Q)), intV e] ∧ ((rrE s ≠ 0 ∧ n = 0 ∧ e = rrE s) ∨ (rrE s = 0 ∧ ¬ rFine s s.m ∧ n = 0 ∧ e = 8) ∨
  (rrE s = 0 ∧ rFine s s.m ∧ n = s.m ∧ e = 0 ∧ P = (fun j => cL s (s.m - 1 - j)) ∧ Q = fun j => cH s (s.m - 1 - j)))
theorem rrRange2 (s : Rmr) (hm : s.m ≤ maxLen) : Fn Try.prog 8 [.c (.sl 2 s.m (c2 s.lo s.hi)), intV s.now, intV s.up, intV s.dn] (raK2 s) :=
  (rrRange s hm).res fun obs r ⟨h0, h⟩ => by
    rcases h with ⟨h1, rfl⟩ | ⟨h1, h2, rfl⟩ | ⟨h1, h2, rfl⟩
    · exact ⟨_, ⟨h0, 0, fun _ => 0, fun _ => 0, _, rfl, .inl ⟨h1, rfl, rfl⟩⟩, Le1.tup (Le.cons Le1.nil (Le.cons (Le1.refl _) Le.nil))⟩
    · exact ⟨_, ⟨h0, 0, fun _ => 0, fun _ => 0, _, rfl, .inr (.inl ⟨h1, h2, rfl, rfl⟩)⟩, Le1.tup (Le.cons Le1.nil (Le.cons (Le1.refl _) Le.nil))⟩
    · exact ⟨_, ⟨h0, _, _, _, _, rfl, .inr (.inr ⟨h1, h2, rfl, rfl, rfl, rfl⟩)⟩, Le1.refl _⟩
def exM : Rmr := ⟨0, 10, 10, 2, fun _ => 0, fun _ => 40⟩
theorem exRange : Fn Try.prog 8 [.c (.sl 2 2 (c2 exM.lo exM.hi)), intV 0, intV 10, intV 10] (fun obs r => obs = [] ∧ r = .tup [.c (.sl 2 2 (c2 (fun _ => 0) fun j => if j = 0 then 10 else 20)), intV 0]) :=
  (rrRange exM (by decide)).res fun obs r ⟨h0, h⟩ => by
    have hE : rrE exM = 0 := by decide
    rcases h with ⟨h1, -⟩ | ⟨-, h2, -⟩ | ⟨h1, h2, rfl⟩
    · exact absurd hE h1
    · refine absurd (fun j hj => ?_) h2
      match j, hj with
      | 0, _ => decide
      | 1, _ => decide
    · refine ⟨_, ⟨h0, rfl⟩, Le1.tup (Le.cons (Le1.sl fun k hk j hj => ?_) (Le.cons (Le1.refl _) Le.nil))⟩
      match k, j, hk, hj with
      | 0, 0, _, _ => rfl
      | 0, 1, _, _ => rfl
      | 1, 0, _, _ => rfl
      | 1, 1, _, _ => rfl
/-- the grid's cells -/
def gF (s : Rmr) : Nat → Nat → Value := fun a b => .bool (rF s a b)
abbrev rNx (p : Nat → Bool) : OB := .row 4 1 41 true fun k _ => bL (p k)
abbrev rqF (s : Rmr) (t k : Nat) : Nat → Bool := fun b => (rF s t b && inB k (s.lo t) (s.hi t)) && inB ((k : Int) - b) (-s.dn) s.up
theorem bex_congr {p q : Nat → Bool} : ∀ {n : Nat}, (∀ k, k < n → p k = q k) → bex p n = bex q n
  | 0, _ => rfl
  | n + 1, h => by
    simp only [bex]
    rw [bex_congr fun k hk => h k (by omega), h n (Nat.lt_succ_self n)]
/-- the grid on the way back: rows above t are done, row t up to k -/
def gKb (s : Rmr) (t k a b : Nat) : Bool := if t < a ∨ (a = t ∧ b < k) then rG s (s.m - a) b else rF s a b
def gK (s : Rmr) (t k : Nat) : Nat → Nat → Value := fun a b => .bool (gKb s t k a b)
theorem gK_st {s : Rmr} {t k : Nat} {v : Bool} (hv : v = rG s (s.m - t) k) (a b : Nat) : (if a = t then (if b = k then Value.bool v else gK s t k a b) else gK s t k a b) = gK s t (k + 1) a b := by
  unfold gK gKb
  by_cases c : a = t
  · rw [if_pos c]
    by_cases c2 : b = k
    · rw [if_pos c2, if_pos (.inr ⟨c, by omega⟩), hv, c, c2]
    · rw [if_neg c2]
      by_cases c3 : b < k
      · rw [if_pos (.inr ⟨c, c3⟩), if_pos (.inr ⟨c, by omega⟩)]
      · rw [if_neg (by omega), if_neg (by omega)]
  · rw [if_neg c]
    by_cases c3 : t < a
    · rw [if_pos (.inl c3), if_pos (.inl c3)]
    · rw [if_neg (by omega), if_neg (by omega)]
theorem gK_top {s : Rmr} {k k' : Nat} (a b : Nat) (ha : a < s.m + 1) : gK s s.m k a b = gK s s.m k' a b := by
  have key : ∀ k, gKb s s.m k a b = rF s a b := fun k => by
    unfold gKb
    by_cases c : s.m < a ∨ (a = s.m ∧ b < k)
    · rw [if_pos c, show a = s.m by omega, Nat.sub_self]
      rfl
    · rw [if_neg c]
  unfold gK
  rw [key, key]
theorem gK_nx {s : Rmr} {t : Nat} (ht : 0 < t) (a b : Nat) (hb : b < 41) : gK s t 41 a b = gK s (t - 1) 0 a b := by
  unfold gK gKb
  by_cases c : t - 1 < a
  · rw [if_pos (by omega), if_pos (.inl c)]
  · rw [if_neg (by omega), if_neg (by omega)]
abbrev gP (s : Rmr) (t k : Nat) : Nat → Bool := fun b => gKb s t k (t + 1) b && inB ((b : Int) - k) (-s.dn) s.up
theorem gP_G {s : Rmr} {t k : Nat} (ht : t < s.m) : (gKb s t k t k && bex (gP s t k) 41) = rG s (s.m - t) k := by
  obtain ⟨d, hd⟩ : ∃ d, s.m - t = d + 1 := ⟨s.m - t - 1, by omega⟩
  rw [hd, rG, show s.m - (d + 1) = t by omega]
  have e1 : gKb s t k t k = rF s t k := if_neg (by omega)
  rw [e1]
  congr 1
  refine bex_congr fun b hb => ?_
  show (gKb s t k (t + 1) b && _) = _
  have e2 : gKb s t k (t + 1) b = rG s d b := (if_pos (.inl (Nat.lt_succ_self t))).trans (by rw [show s.m - (t + 1) = d by omega])
  rw [e2]
theorem gT_G {s : Rmr} {k : Nat} : gKb s s.m k s.m k = rG s (s.m - s.m) k := by
  rw [Nat.sub_self]
  exact if_neg (by omega)
theorem lwF_1 {p : Nat → Bool} {k : Nat} (h : p k = true) (hl : lwF p k < 0) : (k : Int) = lwF p (k + 1) := by rw [lwF, if_pos h, if_pos hl]
theorem lwF_2 {p : Nat → Bool} {k : Nat} (h : p k = true) (hl : ¬ lwF p k < 0) : lwF p k = lwF p (k + 1) := by
  show lwF p k = if p k = true then (if lwF p k < 0 then (k : Int) else lwF p k) else lwF p k
  rw [if_pos h, if_neg hl]
theorem lwF_3 {p : Nat → Bool} {k : Nat} (h : ¬ p k = true) : lwF p k = lwF p (k + 1) := by
  show lwF p k = if p k = true then (if lwF p k < 0 then (k : Int) else lwF p k) else lwF p k
  rw [if_neg h]
theorem hwF_1 {p : Nat → Bool} {k : Nat} (h : p k = true) : (k : Int) = hwF p (k + 1) := by rw [hwF, if_pos h]
theorem hwF_3 {p : Nat → Bool} {k : Nat} (h : ¬ p k = true) : hwF p k = hwF p (k + 1) := by
  show hwF p k = if p k = true then (k : Int) else hwF p k
  rw [if_neg h]
theorem lw_c {s : Rmr} (h : rrOk s) (hs : rrS s) (hf : rFine s s.m) {d : Nat} (hd : d ≤ s.m) : lwF (rG s d) 41 = cL s d ∧ hwF (rG s d) 41 = cH s d := by
  have h1 := cLH_b h hf hd
  have h2 := cLH h hf hd
  have h3 := rAB40 h hs (t := s.m - d) (by omega)
  have q := fun k (_ : k < 41) => rG_iff h hs hf hd (k := k)
  rw [lw_iv h1.1 h2.2.1 q, hw_iv h1.1 h2.2.1 q, if_neg (by omega), if_neg (by omega)]
  exact ⟨rfl, by omega⟩
theorem lw_n {s : Rmr} (hf : ¬ rFine s s.m) : lwF (rG s 0) 41 = -1 := lw_none fun k _ => rF_none hf k
set_option maxHeartbeats 8000000 in
theorem rrLaw (s : Rmr) (hm : s.m ≤ maxLen) : Fn1 Try.prog 3 [.c (.sl 2 s.m (c2 s.lo s.hi)), intV s.now, intV s.up, intV s.dn] (boolV true) := by
  refine fn_of_wpx (O := lex) tab_ok gamRi_ok mixed Try.func3 (by kernel_rfl) rfl rfl rfl (by simp [Try.ntmps3]) (by kernel_rfl) ?_
  have hm' : s.m ≤ 9223372036854775807 := hm
  conv => whnf
  repeat' (first
    | (refine NilG.mk fun bn hbn hbx => ?_; conv => whnf)
    | (refine Both.mk ?_ ?_ <;> conv => whnf)
    | ((first | (refine MkG.box 1 rfl rfl rfl (by decide) ?_) | (refine MkG.box 2 rfl rfl rfl (by decide) ?_) | (refine MkG.box 3 rfl rfl rfl (by decide) ?_) | (refine MkG.row ?_)); conv => whnf)
    | (refine LitG.row ?_; conv => whnf)
    | exact trivial
    | (refine Br.mk (fun hb => ?_) (fun hb => ?_) <;> (first | (exfalso; revert hb; decide) | ((try simp only [BL] at hb) <;> (try simp only [DL] at hb) <;> conv => whnf)))
    | (refine And.intro ?_ ?_; (focus (first | exact id | exact rfl | exact trivial | (intro hg; first | exact hg | exact rfl | (simp; done) | (simp at hg ⊢; assumption)) | omega | decide | exact is2_c _ _ _ | exact is1_c _ _ | exact isS_c _ _ | exact isB_c _ _ | exact Nat.le_refl _ | assumption | exact mulLe (by decide) (by omega) | exact mulLe2 (by decide) (by omega) (by omega) | (intros; simp only [BL] at *; omega) | (intros; (try simp only [BL] at *); (try simp only [DL] at *); omega) | (intros; simp only [BL] at *; rw [wr_id (by omega) (by omega)]; omega) | (intro h1 h2; exact Bool.and_eq_true_iff.2 ⟨h1, h2⟩) | (intros; simp_all; done))); conv => whnf)
    | (refine Or.inr (And.intro rfl ?_); first | (refine congrArg intV ?_) | (refine congrArg boolV ?_) | (refine tupII ?_ ?_) | (refine tupIII ?_ ?_ ?_) | (refine tupU ?_ ?_ ?_ ?_ ?_) | exact rfl))
  refine CallG.mk (Fn.mono (Fn.le exRange (Le.cons (Le1.sl fun k hk j hj => ?_) (fun _ _ _ _ h => h))) ?_)
  · match k, j, hk, hj with
    | 0, 0, _, _ => rfl
    | 0, 1, _, _ => rfl
    | 1, 0, _, _ => rfl
    | 1, 1, _, _ => rfl
  rintro obs r ⟨rfl, rfl⟩
  conv => whnf
  repeat' (first
    | (refine NilG.mk fun bn hbn hbx => ?_; conv => whnf)
    | (refine Both.mk ?_ ?_ <;> conv => whnf)
    | ((first | (refine MkG.box 1 rfl rfl rfl (by decide) ?_) | (refine MkG.box 2 rfl rfl rfl (by decide) ?_) | (refine MkG.box 3 rfl rfl rfl (by decide) ?_) | (refine MkG.row ?_)); conv => whnf)
    | (refine LitG.row ?_; conv => whnf)
    | exact trivial
    | (refine Br.mk (fun hb => ?_) (fun hb => ?_) <;> (first | (exfalso; revert hb; decide) | ((try simp only [BL] at hb) <;> (try simp only [DL] at hb) <;> conv => whnf)))
    | (refine And.intro ?_ ?_; (focus (first | exact id | exact rfl | exact trivial | (intro hg; first | exact hg | exact rfl | (simp; done) | (simp at hg ⊢; assumption)) | omega | decide | exact is2_c _ _ _ | exact is1_c _ _ | exact isS_c _ _ | exact isB_c _ _ | exact Nat.le_refl _ | assumption | exact mulLe (by decide) (by omega) | exact mulLe2 (by decide) (by omega) (by omega) | (intros; simp only [BL] at *; omega) | (intros; (try simp only [BL] at *); (try simp only [DL] at *); omega) | (intros; simp only [BL] at *; rw [wr_id (by omega) (by omega)]; omega) | (intro h1 h2; exact Bool.and_eq_true_iff.2 ⟨h1, h2⟩) | (intros; simp_all; done))); conv => whnf)
    | (refine Or.inr (And.intro rfl ?_); first | (refine congrArg intV ?_) | (refine congrArg boolV ?_) | (refine tupII ?_ ?_) | (refine tupIII ?_ ?_ ?_) | (refine tupU ?_ ?_ ?_ ?_ ?_) | exact rfl))
  refine CallG.mk (Fn.mono (rrRange2 s hm) ?_)
  rintro obs r ⟨rfl, n, P, Q, e, rfl, hR⟩
  conv => whnf
  repeat' (first
    | (refine NilG.mk fun bn hbn hbx => ?_; conv => whnf)
    | (refine Both.mk ?_ ?_ <;> conv => whnf)
    | ((first | (refine MkG.box 1 rfl rfl rfl (by decide) ?_) | (refine MkG.box 2 rfl rfl rfl (by decide) ?_) | (refine MkG.box 3 rfl rfl rfl (by decide) ?_) | (refine MkG.row ?_)); conv => whnf)
    | (refine LitG.row ?_; conv => whnf)
    | exact trivial
    | (refine Br.mk (fun hb => ?_) (fun hb => ?_) <;> (first | (exfalso; revert hb; decide) | ((try simp only [BL] at hb) <;> (try simp only [DL] at hb) <;> conv => whnf)))
    | (refine And.intro ?_ ?_; (focus (first | exact id | exact rfl | exact trivial | (intro hg; first | exact hg | exact rfl | (simp; done) | (simp at hg ⊢; assumption)) | omega | decide | exact is2_c _ _ _ | exact is1_c _ _ | exact isS_c _ _ | exact isB_c _ _ | exact Nat.le_refl _ | assumption | exact mulLe (by decide) (by omega) | exact mulLe2 (by decide) (by omega) (by omega) | (intros; simp only [BL] at *; omega) | (intros; (try simp only [BL] at *); (try simp only [DL] at *); omega) | (intros; simp only [BL] at *; rw [wr_id (by omega) (by omega)]; omega) | (intro h1 h2; exact Bool.and_eq_true_iff.2 ⟨h1, h2⟩) | (intros; simp_all; done))); conv => whnf)
    | (refine Or.inr (And.intro rfl ?_); first | (refine congrArg intV ?_) | (refine congrArg boolV ?_) | (refine tupII ?_ ?_) | (refine tupIII ?_ ?_ ?_) | (refine tupU ?_ ?_ ?_ ?_ ?_) | exact rfl))
  refine CallG.mk (Fn.mono (rrErrR s hm) ?_)
  rintro obs r ⟨rfl, rfl⟩
  conv => whnf
  repeat' (first
    | (refine NilG.mk fun bn hbn hbx => ?_; conv => whnf)
    | (refine Both.mk ?_ ?_ <;> conv => whnf)
    | ((first | (refine MkG.box 1 rfl rfl rfl (by decide) ?_) | (refine MkG.box 2 rfl rfl rfl (by decide) ?_) | (refine MkG.box 3 rfl rfl rfl (by decide) ?_) | (refine MkG.row ?_)); conv => whnf)
    | (refine LitG.row ?_; conv => whnf)
    | exact trivial
    | (refine Br.mk (fun hb => ?_) (fun hb => ?_) <;> (first | (exfalso; revert hb; decide) | ((try simp only [BL] at hb) <;> (try simp only [DL] at hb) <;> conv => whnf)))
    | (refine And.intro ?_ ?_; (focus (first | exact id | exact rfl | exact trivial | (intro hg; first | exact hg | exact rfl | (simp; done) | (simp at hg ⊢; assumption)) | omega | decide | exact is2_c _ _ _ | exact is1_c _ _ | exact isS_c _ _ | exact isB_c _ _ | exact Nat.le_refl _ | assumption | exact mulLe (by decide) (by omega) | exact mulLe2 (by decide) (by omega) (by omega) | (intros; simp only [BL] at *; omega) | (intros; (try simp only [BL] at *); (try simp only [DL] at *); omega) | (intros; simp only [BL] at *; rw [wr_id (by omega) (by omega)]; omega) | (intro h1 h2; exact Bool.and_eq_true_iff.2 ⟨h1, h2⟩) | (intros; simp_all; done))); conv => whnf)
    | (refine Or.inr (And.intro rfl ?_); first | (refine congrArg intV ?_) | (refine congrArg boolV ?_) | (refine tupII ?_ ?_) | (refine tupIII ?_ ?_ ?_) | (refine tupU ?_ ?_ ?_ ?_ ?_) | exact rfl))
  · rcases hR with ⟨-, rfl, rfl⟩ | ⟨h, -⟩ | ⟨h, -⟩
    · simp
    · exact absurd h (by omega)
    · exact absurd h (by omega)
  have hE : rrE s = 0 := by omega
  obtain ⟨hok, hm24⟩ := rrE_zero hE
  have hR2 : (¬ rFine s s.m ∧ n = 0 ∧ e = 8) ∨ (rFine s s.m ∧ n = s.m ∧ e = 0 ∧ P = (fun j => cL s (s.m - 1 - j)) ∧ Q = fun j => cH s (s.m - 1 - j)) := by
    rcases hR with ⟨h, -⟩ | ⟨-, h⟩ | ⟨-, h⟩
    · exact absurd hE h
    · exact .inl h
    · exact .inr h
  clear hR
  refine sem_loop tab_ok gamRi_ok mixed (by kernel_rfl) (O := lex) (fun i : Nat => ⟨[(0, .c (.sl 2 s.m (c2 s.lo s.hi))), (1, intV s.now), (2, intV s.up), (3, intV s.dn), (11, .c (.sl 2 n (c2 P Q))), (12, intV e), (77, .c (.sl 2 s.m (c2 s.lo s.hi))), (78, intV s.m), (79, intV i)], []⟩) (fun i => i ≤ s.m ∧ ∀ k, k < i → s.hi k ≤ 40) (fun i => s.m - i) ⟨0, [], ⟨Nat.zero_le _, fun k hk => absurd hk (Nat.not_lt_zero _)⟩, ?_⟩ fun i hi => ?_
  · refine Sub.of ?_ ?_ ?_
    repeat' (first | (refine And.intro ?_ ?_) | exact trivial | exact fun _ _ _ => hsc _ _ | (exact congrArg intV (by first | with_reducible rfl | with_reducible assumption)) | exact (rfl : AV.idsLt _ _ = true) | exact (rfl : _ = AV.ren _ (.own _)) | exact (rfl : _ = AV.ren _ (.fn _ _)) | exact (rfl : _ = AV.ren _ (.gh _)) | (exact congrArg intV (by assumption)) | (refine congrArg intV ((wr_id (by omega) (by omega)).trans (by omega))) | exact rfl | (simp only [NLc]; first | exact rfl | done) | exact all0 | exact fun h => Bool.noConfusion h | exact fun _ _ _ _ => rfl | omega)
  have hn := hok.2.1
  conv => whnf
  repeat' (first
    | (refine NilG.mk fun bn hbn hbx => ?_; conv => whnf)
    | (refine Both.mk ?_ ?_ <;> conv => whnf)
    | ((first | (refine MkG.box 1 rfl rfl rfl (by decide) ?_) | (refine MkG.box 2 rfl rfl rfl (by decide) ?_) | (refine MkG.box 3 rfl rfl rfl (by decide) ?_) | (refine MkG.row ?_)); conv => whnf)
    | ((first | (refine LitG.grid ?_; (conv => whnf); refine And.intro rfl ?_) | (refine LitG.row ?_)); conv => whnf)
    | exact trivial
    | (refine Br.mk (fun hb => ?_) (fun hb => ?_) <;> (first | (exfalso; revert hb; decide) | ((try simp only [BL] at hb) <;> (try simp only [DL] at hb) <;> conv => whnf)))
    | (refine And.intro ?_ ?_; (focus (first | exact id | exact rfl | exact trivial | (intro hg; first | exact hg | exact rfl | (simp; done) | (simp at hg ⊢; assumption)) | omega | decide | exact is2_c _ _ _ | exact is1_c _ _ | exact isS_c _ _ | exact isB_c _ _ | exact Nat.le_refl _ | assumption | exact mulLe (by decide) (by omega) | exact mulLe2 (by decide) (by omega) (by omega) | (intros; simp only [BL] at *; omega) | (intros; (try simp only [BL] at *); (try simp only [DL] at *); omega) | (intros; simp only [BL] at *; rw [wr_id (by omega) (by omega)]; omega) | (intro h1 h2; exact Bool.and_eq_true_iff.2 ⟨h1, h2⟩) | (intros; simp_all; done))); conv => whnf)
    | (refine Or.inr (And.intro rfl ?_); first | (refine congrArg intV ?_) | (refine congrArg boolV ?_) | (refine tupII ?_ ?_) | (refine tupIII ?_ ?_ ?_) | (refine tupU ?_ ?_ ?_ ?_ ?_) | exact rfl))
  · rfl
  · refine ⟨i + 1, [], ⟨by omega, fun k hk => by
          rcases Nat.lt_succ_iff_lt_or_eq.1 hk with h | rfl
          · exact hi.2 k h
          · omega⟩, by omega, ?_⟩
    refine Sub.of ?_ ?_ ?_
    repeat' (first | (refine And.intro ?_ ?_) | exact trivial | exact fun _ _ _ => hsc _ _ | (exact congrArg intV (by first | with_reducible rfl | with_reducible assumption)) | exact (rfl : AV.idsLt _ _ = true) | exact (rfl : _ = AV.ren _ (.own _)) | exact (rfl : _ = AV.ren _ (.fn _ _)) | exact (rfl : _ = AV.ren _ (.gh _)) | (exact congrArg intV (by assumption)) | (refine congrArg intV ((wr_id (by omega) (by omega)).trans (by omega))) | exact rfl | (simp only [NLc]; first | exact rfl | done) | exact all0 | exact fun h => Bool.noConfusion h | exact fun _ _ _ _ => rfl | omega)
  · rfl
  obtain rfl : i = s.m := by omega
  have hS : rrS s := ⟨by omega, hi.2⟩
  have n0 : (s.now.toNat : Int) = s.now := by omega
  have hsc : ∀ {p : Nat → Bool} (a b : Nat), ((fun (k _ : Nat) => bL (p k)) a b).scal = true := fun _ _ => rfl
  refine sem_loop tab_ok gamRi_ok mixed (by kernel_rfl) (O := lex) (fun t : Nat => ⟨[(0, .c (.sl 2 s.m (c2 s.lo s.hi))), (2, intV s.up), (3, intV s.dn), (11, .c (.sl 2 n (c2 P Q))), (12, intV e), (16, .own 0), (96, .c (.sl 2 s.m (c2 s.lo s.hi))), (97, intV s.m), (98, intV t)], [.grid 29 (t + 1) 41 (gF s)]⟩) (fun t => t ≤ s.m) (fun t => s.m - t) ⟨0, [?_], Nat.zero_le _, ?_⟩ fun t ht => ?_
  rotate_left 1
  · refine Sub.of ?_ ?_ ?_
    repeat' (first | (refine And.intro ?_ ?_) | exact trivial | exact fun _ _ _ => hsc _ _ | (exact congrArg intV (by first | with_reducible rfl | with_reducible assumption)) | exact (rfl : AV.idsLt _ _ = true) | exact (rfl : _ = AV.ren _ (.own _)) | exact (rfl : _ = AV.ren _ (.fn _ _)) | exact (rfl : _ = AV.ren _ (.gh _)) | (exact congrArg intV (by assumption)) | (refine congrArg intV ((wr_id (by omega) (by omega)).trans (by omega))) | exact rfl | (simp only [NLc]; first | exact rfl | done) | exact all0 | exact fun h => Bool.noConfusion h | exact fun _ _ _ _ => rfl | omega)
    · intro a ha b hb
      obtain rfl : a = 0 := by omega
      refine (if_pos rfl).trans ?_
      by_cases c : b = s.now.toNat
      · exact (if_pos c).trans (congrArg Value.bool (decide_eq_true (by omega)).symm)
      · exact (if_neg c).trans (congrArg Value.bool (decide_eq_false (by omega)).symm)
  conv => whnf
  repeat' (first
    | (refine NilG.mk fun bn hbn hbx => ?_; conv => whnf)
    | (refine Both.mk ?_ ?_ <;> conv => whnf)
    | ((first | (refine MkG.box 1 rfl rfl rfl (by decide) ?_) | (refine MkG.box 2 rfl rfl rfl (by decide) ?_) | (refine MkG.box 3 rfl rfl rfl (by decide) ?_) | (refine MkG.row ?_)); conv => whnf)
    | ((first | (refine LitG.grid ?_; (conv => whnf); refine And.intro rfl ?_) | (refine LitG.row ?_)); conv => whnf)
    | exact trivial
    | (refine Br.mk (fun hb => ?_) (fun hb => ?_) <;> (first | (exfalso; revert hb; decide) | ((try simp only [BL] at hb) <;> (try simp only [DL] at hb) <;> conv => whnf)))
    | (refine And.intro ?_ ?_; (focus (first | exact id | exact rfl | exact trivial | (intro hg; first | exact hg | exact rfl | (simp; done) | (simp at hg ⊢; assumption)) | omega | decide | exact is2_c _ _ _ | exact is1_c _ _ | exact isS_c _ _ | exact isB_c _ _ | exact Nat.le_refl _ | assumption | exact mulLe (by decide) (by omega) | exact mulLe2 (by decide) (by omega) (by omega) | (intros; simp only [BL] at *; omega) | (intros; (try simp only [BL] at *); (try simp only [DL] at *); omega) | (intros; simp only [BL] at *; rw [wr_id (by omega) (by omega)]; omega) | (intro h1 h2; exact Bool.and_eq_true_iff.2 ⟨h1, h2⟩) | (intros; simp_all; done))); conv => whnf)
    | (refine Or.inr (And.intro rfl ?_); first | (refine congrArg intV ?_) | (refine congrArg boolV ?_) | (refine tupII ?_ ?_) | (refine tupIII ?_ ?_ ?_) | (refine tupU ?_ ?_ ?_ ?_ ?_) | exact rfl))
  · have hk := hok.1 t (by omega)
    have ha := hok.2.2
    refine sem_loop tab_ok gamRi_ok mixed (by kernel_rfl) (O := lex) (fun k : Nat => ⟨[(0, .c (.sl 2 s.m (c2 s.lo s.hi))), (2, intV s.up), (3, intV s.dn), (11, .c (.sl 2 n (c2 P Q))), (12, intV e), (16, .own 0), (17, intV t), (18, .lp 1 0), (19, .own 2), (96, .c (.sl 2 s.m (c2 s.lo s.hi))), (97, intV s.m), (98, intV t), (105, intV 41), (106, intV k)], [.grid 29 (t + 1) 41 (gF s), .box [intV (s.lo t), intV (s.hi t)], rNx (fun j => if j < k then rF s (t + 1) j else false)]⟩) (fun k => k ≤ 41) (fun k => 41 - k) ⟨0, [?_, ?_, ?_], Nat.zero_le _, ?_⟩ fun k hk1 => ?_
    rotate_left 3
    · refine Sub.of ?_ ?_ ?_
      repeat' (first | (refine And.intro ?_ ?_) | exact trivial | exact fun _ _ _ => hsc _ _ | (exact congrArg intV (by first | with_reducible rfl | with_reducible assumption)) | exact (rfl : AV.idsLt _ _ = true) | exact (rfl : _ = AV.ren _ (.own _)) | exact (rfl : _ = AV.ren _ (.fn _ _)) | exact (rfl : _ = AV.ren _ (.gh _)) | (exact congrArg intV (by assumption)) | (refine congrArg intV ((wr_id (by omega) (by omega)).trans (by omega))) | exact rfl | (simp only [NLc]; first | exact rfl | done) | exact all0 | exact fun h => Bool.noConfusion h | exact fun _ _ _ _ => rfl | omega)
      · exact fun _ _ _ => rfl
      · intro a ha b hb
        have hb : b < 1 := hb
        obtain rfl : b = 0 := by omega
        exact congrArg bL (if_neg (Nat.not_lt_zero a)).symm
    conv => whnf
    repeat' (first
      | (refine NilG.mk fun bn hbn hbx => ?_; conv => whnf)
      | (refine Both.mk ?_ ?_ <;> conv => whnf)
      | ((first | (refine MkG.box 1 rfl rfl rfl (by decide) ?_) | (refine MkG.box 2 rfl rfl rfl (by decide) ?_) | (refine MkG.box 3 rfl rfl rfl (by decide) ?_) | (refine MkG.row ?_)); conv => whnf)
      | ((first | (refine LitG.grid ?_; (conv => whnf); refine And.intro rfl ?_) | (refine LitG.row ?_)); conv => whnf)
      | exact trivial
      | (refine Br.mk (fun hb => ?_) (fun hb => ?_) <;> (first | (exfalso; revert hb; decide) | ((try simp only [BL] at hb) <;> (try simp only [DL] at hb) <;> conv => whnf)))
      | (refine And.intro ?_ ?_; (focus (first | exact id | exact rfl | exact trivial | (intro hg; first | exact hg | exact rfl | (simp; done) | (simp at hg ⊢; assumption)) | omega | decide | exact is2_c _ _ _ | exact is1_c _ _ | exact isS_c _ _ | exact isB_c _ _ | exact Nat.le_refl _ | assumption | exact mulLe (by decide) (by omega) | exact mulLe2 (by decide) (by omega) (by omega) | (intros; simp only [BL] at *; omega) | (intros; (try simp only [BL] at *); (try simp only [DL] at *); omega) | (intros; simp only [BL] at *; rw [wr_id (by omega) (by omega)]; omega) | (intro h1 h2; exact Bool.and_eq_true_iff.2 ⟨h1, h2⟩) | (intros; simp_all; done))); conv => whnf)
      | (refine Or.inr (And.intro rfl ?_); first | (refine congrArg intV ?_) | (refine congrArg boolV ?_) | (refine tupII ?_ ?_) | (refine tupIII ?_ ?_ ?_) | (refine tupU ?_ ?_ ?_ ?_ ?_) | exact rfl))
    · refine sem_loop tab_ok gamRi_ok mixed (by kernel_rfl) (O := lex) (fun b : Nat => ⟨[(0, .c (.sl 2 s.m (c2 s.lo s.hi))), (2, intV s.up), (3, intV s.dn), (11, .c (.sl 2 n (c2 P Q))), (12, intV e), (16, .own 0), (17, intV t), (18, .lp 1 0), (19, .own 2), (20, intV k), (96, .c (.sl 2 s.m (c2 s.lo s.hi))), (97, intV s.m), (98, intV t), (105, intV 41), (106, intV k), (112, .gr 0 t 41), (113, intV 41), (114, intV b)], [.grid 29 (t + 1) 41 (gF s), .box [intV (s.lo t), intV (s.hi t)], rNx (fun j => if j < k then rF s (t + 1) j else if j = k then bex (rqF s t k) b else false)]⟩) (fun b => b ≤ 41) (fun b => 41 - b) ⟨0, [?_, ?_, ?_], Nat.zero_le _, ?_⟩ fun b hb1 => ?_
      rotate_left 3
      · refine Sub.of ?_ ?_ ?_
        repeat' (first | (refine And.intro ?_ ?_) | exact trivial | exact fun _ _ _ => hsc _ _ | (exact congrArg intV (by first | with_reducible rfl | with_reducible assumption)) | exact (rfl : AV.idsLt _ _ = true) | exact (rfl : _ = AV.ren _ (.own _)) | exact (rfl : _ = AV.ren _ (.fn _ _)) | exact (rfl : _ = AV.ren _ (.gh _)) | (exact congrArg intV (by assumption)) | (refine congrArg intV ((wr_id (by omega) (by omega)).trans (by omega))) | exact rfl | (simp only [NLc]; first | exact rfl | done) | exact all0 | exact fun h => Bool.noConfusion h | exact fun _ _ _ _ => rfl | omega)
        · exact fun _ _ _ => rfl
        · intro a ha b hb
          refine congrArg bL ?_
          show (if a < k then rF s (t + 1) a else false) = if a < k then rF s (t + 1) a else if a = k then false else false
          rw [ite_self]
      have wd : IntKind.i64.wrap (0 - s.dn) = -s.dn := (wr_id (by omega) (by omega)).trans (by omega)
      conv => whnf
      repeat' (first
        | (refine NilG.mk fun bn hbn hbx => ?_; conv => whnf)
        | (refine Both.mk ?_ ?_ <;> conv => whnf)
        | ((first | (refine MkG.box 1 rfl rfl rfl (by decide) ?_) | (refine MkG.box 2 rfl rfl rfl (by decide) ?_) | (refine MkG.box 3 rfl rfl rfl (by decide) ?_) | (refine MkG.row ?_)); conv => whnf)
        | ((first | (refine LitG.grid ?_; (conv => whnf); refine And.intro rfl ?_) | (refine LitG.row ?_)); conv => whnf)
        | exact trivial
        | (refine Br.mk (fun hb => ?_) (fun hb => ?_) <;> (first | (exfalso; revert hb; decide) | ((try simp only [BL] at hb) <;> (try simp only [DL] at hb) <;> conv => whnf)))
        | (refine And.intro ?_ ?_; (focus (first | exact id | exact rfl | exact trivial | (intro hg; first | exact hg | exact rfl | (simp; done) | (simp at hg ⊢; assumption)) | omega | decide | exact is2_c _ _ _ | exact is1_c _ _ | exact isS_c _ _ | exact isB_c _ _ | exact Nat.le_refl _ | assumption | exact mulLe (by decide) (by omega) | exact mulLe2 (by decide) (by omega) (by omega) | (intros; simp only [BL] at *; omega) | (intros; (try simp only [BL] at *); (try simp only [DL] at *); omega) | (intros; simp only [BL] at *; rw [wr_id (by omega) (by omega)]; omega) | (intro h1 h2; exact Bool.and_eq_true_iff.2 ⟨h1, h2⟩) | (intros; simp_all; done))); conv => whnf)
        | (refine Or.inr (And.intro rfl ?_); first | (refine congrArg intV ?_) | (refine congrArg boolV ?_) | (refine tupII ?_ ?_) | (refine tupIII ?_ ?_ ?_) | (refine tupU ?_ ?_ ?_ ?_ ?_) | exact rfl))
      · have wkb : IntKind.i64.wrap ((k : Int) - b) = (k : Int) - b := wr_id (by omega) (by omega)
        refine ⟨b + 1, [?_, ?_, ?_], by omega, by omega, ?_⟩
        rotate_left 3
        refine Sub.of ?_ ?_ ?_
        repeat' (first | (refine And.intro ?_ ?_) | exact trivial | exact fun _ _ _ => hsc _ _ | (exact congrArg intV (by first | with_reducible rfl | with_reducible assumption)) | exact (rfl : AV.idsLt _ _ = true) | exact (rfl : _ = AV.ren _ (.own _)) | exact (rfl : _ = AV.ren _ (.fn _ _)) | exact (rfl : _ = AV.ren _ (.gh _)) | (exact congrArg intV (by assumption)) | (refine congrArg intV ((wr_id (by omega) (by omega)).trans (by omega))) | exact rfl | (simp only [NLc]; first | exact rfl | done) | exact all0 | exact fun h => Bool.noConfusion h | exact fun _ _ _ _ => rfl | omega)
        · exact fun _ _ _ => rfl
        · intro a ha j hj
          obtain rfl : j = 0 := by omega
          by_cases hak : a = k
          · refine (if_pos hak).trans ((if_pos ⟨Nat.zero_le _, by simp⟩).trans (congrArg bL ?_))
            have e1 : (if k < k then rF s (t + 1) k else if k = k then bex (rqF s t k) b else false) = bex (rqF s t k) b := (if_neg (Nat.lt_irrefl k)).trans (if_pos rfl)
            have e2 : (if a < k then rF s (t + 1) a else if a = k then bex (rqF s t k) (b + 1) else false) = bex (rqF s t k) (b + 1) := (if_neg (by omega)).trans (if_pos hak)
            show ((if k < k then rF s (t + 1) k else if k = k then bex (rqF s t k) b else false) || ((rF s t b && inB k (s.lo t) (s.hi t)) && inB (IntKind.i64.wrap ((k : Int) - b)) (IntKind.i64.wrap (0 - s.dn)) s.up)) = if a < k then rF s (t + 1) a else if a = k then bex (rqF s t k) (b + 1) else false
            rw [e1, e2, wkb, wd]
            rfl
          · refine (if_neg hak).trans (congrArg bL ?_)
            show (if a < k then rF s (t + 1) a else if a = k then bex (rqF s t k) b else false) = if a < k then rF s (t + 1) a else if a = k then bex (rqF s t k) (b + 1) else false
            rw [if_neg hak, if_neg hak]
      · obtain rfl : b = 41 := by omega
        refine ⟨k + 1, [?_, ?_, ?_], by omega, by omega, ?_⟩
        rotate_left 3
        refine Sub.of ?_ ?_ ?_
        repeat' (first | (refine And.intro ?_ ?_) | exact trivial | exact fun _ _ _ => hsc _ _ | (exact congrArg intV (by first | with_reducible rfl | with_reducible assumption)) | exact (rfl : AV.idsLt _ _ = true) | exact (rfl : _ = AV.ren _ (.own _)) | exact (rfl : _ = AV.ren _ (.fn _ _)) | exact (rfl : _ = AV.ren _ (.gh _)) | (exact congrArg intV (by assumption)) | (refine congrArg intV ((wr_id (by omega) (by omega)).trans (by omega))) | exact rfl | (simp only [NLc]; first | exact rfl | done) | exact all0 | exact fun h => Bool.noConfusion h | exact fun _ _ _ _ => rfl | omega)
        · exact fun _ _ _ => rfl
        · intro a ha j hj
          refine congrArg bL ?_
          show (if a < k then rF s (t + 1) a else if a = k then rF s (t + 1) k else false) = if a < k + 1 then rF s (t + 1) a else false
          by_cases hak : a = k
          · subst hak
            rw [if_neg (Nat.lt_irrefl a), if_pos rfl, if_pos (Nat.lt_succ_self a)]
          · rw [if_neg hak]
            by_cases c : a < k
            · rw [if_pos c, if_pos (by omega)]
            · rw [if_neg c, if_neg (by omega)]
    · obtain rfl : k = 41 := by omega
      refine ⟨t + 1, [?_], by omega, by omega, ?_⟩
      rotate_left 1
      refine Sub.of ?_ ?_ ?_
      repeat' (first | (refine And.intro ?_ ?_) | exact trivial | exact fun _ _ _ => hsc _ _ | (exact congrArg intV (by first | with_reducible rfl | with_reducible assumption)) | exact (rfl : AV.idsLt _ _ = true) | exact (rfl : _ = AV.ren _ (.own _)) | exact (rfl : _ = AV.ren _ (.fn _ _)) | exact (rfl : _ = AV.ren _ (.gh _)) | (exact congrArg intV (by assumption)) | (refine congrArg intV ((wr_id (by omega) (by omega)).trans (by omega))) | exact rfl | (simp only [NLc]; first | exact rfl | done) | exact all0 | exact fun h => Bool.noConfusion h | exact fun _ _ _ _ => rfl | omega)
      intro a ha b hb
      by_cases c : a < t + 1
      · exact if_pos c
      · obtain rfl : a = t + 1 := by omega
        exact (if_neg c).trans (congrArg Value.bool (if_pos hb))
  obtain rfl : t = s.m := by omega
  have ha := hok.2.2
  refine LoopG.nil 23 27 2 rfl ?_
  refine sem_loop tab_ok gamRi_ok mixed (by kernel_rfl) (O := lex) (fun t : Nat => ⟨[(0, .c (.sl 2 s.m (c2 s.lo s.hi))), (2, intV s.up), (3, intV s.dn), (11, .c (.sl 2 n (c2 P Q))), (12, intV e), (16, .own 0), (23, .own 1), (24, intV t)], [.grid 29 (s.m + 1) 41 (gK s t 0), rrR (s.m - t) (fun i => lwF (rG s (s.m - (t + 1 + i))) 41) (fun i => hwF (rG s (s.m - (t + 1 + i))) 41)]⟩) (fun t => t ≤ s.m ∧ (t < s.m → rFine s s.m)) (fun t => t) ⟨s.m, [?_, ?_], ⟨Nat.le_refl _, fun h => absurd h (Nat.lt_irrefl _)⟩, ?_⟩ fun t ht => ?_
  rotate_left 2
  · refine Sub.of ?_ ?_ ?_
    repeat' (first | (refine And.intro ?_ ?_) | exact trivial | exact fun _ _ _ => hsc _ _ | (exact congrArg intV (by first | with_reducible rfl | with_reducible assumption)) | exact (rfl : AV.idsLt _ _ = true) | exact (rfl : _ = AV.ren _ (.own _)) | exact (rfl : _ = AV.ren _ (.fn _ _)) | exact (rfl : _ = AV.ren _ (.gh _)) | (exact congrArg intV (by assumption)) | (refine congrArg intV ((wr_id (by omega) (by omega)).trans (by omega))) | exact rfl | (simp only [NLc]; first | exact rfl | done) | exact all0 | exact fun h => Bool.noConfusion h | exact fun _ _ _ _ => rfl | omega)
    · exact fun a ha b hb => (congrArg Value.bool (if_neg (by omega))).symm
  rcases Nat.eq_zero_or_pos t with rfl | ht0
  · have hf : rFine s s.m := by
      rcases Nat.eq_zero_or_pos s.m with h | h
      · exact fun j hj => absurd hj (by omega)
      · exact ht.2 h
    rcases hR2 with ⟨h, -⟩ | ⟨-, rfl, rfl, rfl, rfl⟩
    · exact absurd hf h
    conv => whnf
    repeat' (first
      | (refine NilG.mk fun bn hbn hbx => ?_; conv => whnf)
      | (refine Both.mk ?_ ?_ <;> conv => whnf)
      | ((first | (refine MkG.box 1 rfl rfl rfl (by decide) ?_) | (refine MkG.box 2 rfl rfl rfl (by decide) ?_) | (refine MkG.box 3 rfl rfl rfl (by decide) ?_) | (refine MkG.row ?_)); conv => whnf)
      | (refine LitG.row ?_; conv => whnf)
      | exact trivial
      | (refine Br.mk (fun hb => ?_) (fun hb => ?_) <;> (first | (exfalso; revert hb; decide) | ((try simp only [BL] at hb) <;> (try simp only [DL] at hb) <;> (first | (exfalso; omega) | (conv => whnf)))))
      | (refine And.intro ?_ ?_; (focus (first | exact id | exact rfl | exact trivial | (intro hg; first | exact hg | exact rfl | (simp; done) | (simp at hg ⊢; assumption)) | omega | decide | exact is2_c _ _ _ | exact is1_c _ _ | exact isS_c _ _ | exact isB_c _ _ | exact Nat.le_refl _ | assumption | exact mulLe (by decide) (by omega) | exact mulLe2 (by decide) (by omega) (by omega) | (intros; simp only [BL] at *; omega) | (intros; (try simp only [BL] at *); (try simp only [DL] at *); omega) | (intros; simp only [BL] at *; rw [wr_id (by omega) (by omega)]; omega) | (intro h1 h2; exact Bool.and_eq_true_iff.2 ⟨h1, h2⟩) | (intros; simp_all; done))); conv => whnf)
      | (refine Or.inr (And.intro rfl ?_); first | (refine congrArg intV ?_) | (refine congrArg boolV ?_) | (refine tupII ?_ ?_) | (refine tupIII ?_ ?_ ?_) | (refine tupU ?_ ?_ ?_ ?_ ?_) | exact rfl))
    · exfalso
      rcases hb with h | h
      · exact h trivial
      · omega
    refine sem_loop tab_ok gamRi_ok mixed (by kernel_rfl) (O := lex) (fun i : Nat => ⟨[(11, .c (.sl 2 s.m (c2 (fun j => cL s (s.m - 1 - j)) fun j => cH s (s.m - 1 - j)))), (23, .own 0), (240, intV s.m), (241, intV i)], [rrR s.m (fun i => lwF (rG s (s.m - (0 + 1 + i))) 41) (fun i => hwF (rG s (s.m - (0 + 1 + i))) 41)]⟩) (fun i => i ≤ s.m) (fun i => s.m - i) ⟨0, [?_], Nat.zero_le _, ?_⟩ fun i hi2 => ?_
    rotate_left 1
    · refine Sub.of ?_ ?_ ?_
      repeat' (first | (refine And.intro ?_ ?_) | exact trivial | exact fun _ _ _ => hsc _ _ | (exact congrArg intV (by first | with_reducible rfl | with_reducible assumption)) | exact (rfl : AV.idsLt _ _ = true) | exact (rfl : _ = AV.ren _ (.own _)) | exact (rfl : _ = AV.ren _ (.fn _ _)) | exact (rfl : _ = AV.ren _ (.gh _)) | (exact congrArg intV (by assumption)) | (refine congrArg intV ((wr_id (by omega) (by omega)).trans (by omega))) | exact rfl | (simp only [NLc]; first | exact rfl | done) | exact all0 | exact fun h => Bool.noConfusion h | exact fun _ _ _ _ => rfl | omega)
    conv => whnf
    repeat' (first
      | (refine NilG.mk fun bn hbn hbx => ?_; conv => whnf)
      | (refine Both.mk ?_ ?_ <;> conv => whnf)
      | ((first | (refine MkG.box 1 rfl rfl rfl (by decide) ?_) | (refine MkG.box 2 rfl rfl rfl (by decide) ?_) | (refine MkG.box 3 rfl rfl rfl (by decide) ?_) | (refine MkG.row ?_)); conv => whnf)
      | (refine LitG.row ?_; conv => whnf)
      | exact trivial
      | (refine Br.mk (fun hb => ?_) (fun hb => ?_) <;> (first | (exfalso; revert hb; decide) | ((try simp only [BL] at hb) <;> (try simp only [DL] at hb) <;> (first | (exfalso; omega) | (conv => whnf)))))
      | (refine And.intro ?_ ?_; (focus (first | exact id | exact rfl | exact trivial | (intro hg; first | exact hg | exact rfl | (simp; done) | (simp at hg ⊢; assumption)) | omega | decide | exact is2_c _ _ _ | exact is1_c _ _ | exact isS_c _ _ | exact isB_c _ _ | exact Nat.le_refl _ | assumption | exact mulLe (by decide) (by omega) | exact mulLe2 (by decide) (by omega) (by omega) | (intros; simp only [BL] at *; omega) | (intros; (try simp only [BL] at *); (try simp only [DL] at *); omega) | (intros; simp only [BL] at *; rw [wr_id (by omega) (by omega)]; omega) | (intro h1 h2; exact Bool.and_eq_true_iff.2 ⟨h1, h2⟩) | exact ⟨rfl, by omega, by decide⟩ | (intros; simp_all; done))); conv => whnf)
      | (refine Or.inr (And.intro rfl ?_); first | (refine congrArg intV ?_) | (refine congrArg boolV ?_) | (refine tupII ?_ ?_) | (refine tupIII ?_ ?_ ?_) | (refine tupU ?_ ?_ ?_ ?_ ?_) | exact rfl))
    · exfalso
      obtain ⟨h1, h2⟩ := lw_c hok hS hf (d := s.m - 1 - i) (by omega)
      have e1 : lwF (rG s (s.m - (0 + 1 + i))) 41 = cL s (s.m - 1 - i) := by rw [show s.m - (0 + 1 + i) = s.m - 1 - i by omega]; exact h1
      have e2 : hwF (rG s (s.m - (0 + 1 + i))) 41 = cH s (s.m - 1 - i) := by rw [show s.m - (0 + 1 + i) = s.m - 1 - i by omega]; exact h2
      rcases hb with h | h | h
      · exact h e1.symm
      · exact h e2.symm
      · cases h
    · refine ⟨i + 1, [?_], by omega, by omega, ?_⟩
      rotate_left 1
      refine Sub.of ?_ ?_ ?_
      repeat' (first | (refine And.intro ?_ ?_) | exact trivial | exact fun _ _ _ => hsc _ _ | (exact congrArg intV (by first | with_reducible rfl | with_reducible assumption)) | exact (rfl : AV.idsLt _ _ = true) | exact (rfl : _ = AV.ren _ (.own _)) | exact (rfl : _ = AV.ren _ (.fn _ _)) | exact (rfl : _ = AV.ren _ (.gh _)) | (exact congrArg intV (by assumption)) | (refine congrArg intV ((wr_id (by omega) (by omega)).trans (by omega))) | exact rfl | (simp only [NLc]; first | exact rfl | done) | exact all0 | exact fun h => Bool.noConfusion h | exact fun _ _ _ _ => rfl | omega)
    · rfl
  · conv => whnf
    repeat' (first
      | (refine NilG.mk fun bn hbn hbx => ?_; conv => whnf)
      | (refine Both.mk ?_ ?_ <;> conv => whnf)
      | ((first | (refine MkG.box 1 rfl rfl rfl (by decide) ?_) | (refine MkG.box 2 rfl rfl rfl (by decide) ?_) | (refine MkG.box 3 rfl rfl rfl (by decide) ?_) | (refine MkG.row ?_)); conv => whnf)
      | (refine LitG.row ?_; conv => whnf)
      | exact trivial
      | (refine Br.mk (fun hb => ?_) (fun hb => ?_) <;> (first | (exfalso; revert hb; decide) | ((try simp only [BL] at hb) <;> (try simp only [DL] at hb) <;> (first | (exfalso; omega) | (conv => whnf)))))
      | (refine And.intro ?_ ?_; (focus (first | exact id | exact rfl | exact trivial | (intro hg; first | exact hg | exact rfl | (simp; done) | (simp at hg ⊢; assumption)) | omega | decide | exact is2_c _ _ _ | exact is1_c _ _ | exact isS_c _ _ | exact isB_c _ _ | exact Nat.le_refl _ | assumption | exact mulLe (by decide) (by omega) | exact mulLe2 (by decide) (by omega) (by omega) | (intros; simp only [BL] at *; omega) | (intros; (try simp only [BL] at *); (try simp only [DL] at *); omega) | (intros; simp only [BL] at *; rw [wr_id (by omega) (by omega)]; omega) | (intro h1 h2; exact Bool.and_eq_true_iff.2 ⟨h1, h2⟩) | (intros; simp_all; done))); conv => whnf)
      | (refine Or.inr (And.intro rfl ?_); first | (refine congrArg intV ?_) | (refine congrArg boolV ?_) | (refine tupII ?_ ?_) | (refine tupIII ?_ ?_ ?_) | (refine tupU ?_ ?_ ?_ ?_ ?_) | exact rfl))
    refine sem_loop tab_ok gamRi_ok mixed (by kernel_rfl) (O := lex) (fun k : Nat => ⟨[(0, .c (.sl 2 s.m (c2 s.lo s.hi))), (2, intV s.up), (3, intV s.dn), (11, .c (.sl 2 n (c2 P Q))), (12, intV e), (16, .own 0), (23, .own 1), (24, intV t), (25, intV (lwF (rG s (s.m - t)) k)), (26, intV (hwF (rG s (s.m - t)) k)), (162, .gr 0 t 41), (163, intV 41), (164, intV k)], [.grid 29 (s.m + 1) 41 (gK s t k), rrR (s.m - t) (fun i => lwF (rG s (s.m - (t + 1 + i))) 41) (fun i => hwF (rG s (s.m - (t + 1 + i))) 41)]⟩) (fun k => k ≤ 41) (fun k => 41 - k) ⟨0, [?_, ?_], Nat.zero_le _, ?_⟩ fun k hk1 => ?_
    rotate_left 2
    · refine Sub.of ?_ ?_ ?_
      repeat' (first | (refine And.intro ?_ ?_) | exact trivial | exact fun _ _ _ => hsc _ _ | (exact congrArg intV (by first | with_reducible rfl | with_reducible assumption)) | exact (rfl : AV.idsLt _ _ = true) | exact (rfl : _ = AV.ren _ (.own _)) | exact (rfl : _ = AV.ren _ (.fn _ _)) | exact (rfl : _ = AV.ren _ (.gh _)) | (exact congrArg intV (by assumption)) | (refine congrArg intV ((wr_id (by omega) (by omega)).trans (by omega))) | exact rfl | (simp only [NLc]; first | exact rfl | done) | exact all0 | exact fun h => Bool.noConfusion h | exact fun _ _ _ _ => rfl | omega)
    have w9 : IntKind.i64.wrap ((t : Int) + 1) = ((t + 1 : Nat) : Int) := (wr_id (by omega) (by omega)).trans (by omega)
    conv => whnf
    repeat' (first
      | (refine NilG.mk fun bn hbn hbx => ?_; conv => whnf)
      | (refine Both.mk ?_ ?_ <;> conv => whnf)
      | ((first | (refine MkG.box 1 rfl rfl rfl (by decide) ?_) | (refine MkG.box 2 rfl rfl rfl (by decide) ?_) | (refine MkG.box 3 rfl rfl rfl (by decide) ?_) | (refine MkG.row ?_)); conv => whnf)
      | (refine LitG.row ?_; conv => whnf)
      | exact trivial
      | (refine Br.mk (fun hb => ?_) (fun hb => ?_) <;> (first | (exfalso; revert hb; decide) | ((try simp only [BL] at hb) <;> (try simp only [DL] at hb) <;> (first | (exfalso; omega) | (conv => whnf)))))
      | (refine And.intro ?_ ?_; (focus (first | exact id | exact rfl | exact trivial | (intro hg; first | exact hg | exact rfl | (simp; done) | (simp at hg ⊢; assumption)) | omega | decide | exact is2_c _ _ _ | exact is1_c _ _ | exact isS_c _ _ | exact isB_c _ _ | exact Nat.le_refl _ | assumption | exact mulLe (by decide) (by omega) | exact mulLe2 (by decide) (by omega) (by omega) | (intros; simp only [BL] at *; omega) | (intros; (try simp only [BL] at *); (try simp only [DL] at *); omega) | (intros; simp only [BL] at *; rw [wr_id (by omega) (by omega)]; omega) | (intro h1 h2; exact Bool.and_eq_true_iff.2 ⟨h1, h2⟩) | first | (rw [w9]; omega) | exact ⟨by rw [w9]; omega, by rw [w9]; omega⟩ | exact ⟨rfl, by rw [w9]; omega, rfl⟩ | (intros; simp_all; done))); conv => whnf)
      | (refine Or.inr (And.intro rfl ?_); first | (refine congrArg intV ?_) | (refine congrArg boolV ?_) | (refine tupII ?_ ?_) | (refine tupIII ?_ ?_ ?_) | (refine tupU ?_ ?_ ?_ ?_ ?_) | exact rfl))
    · rw [w9]
      have hv := gP_G (s := s) (t := t) (k := k) (by omega)
      have wd : IntKind.i64.wrap (0 - s.dn) = -s.dn := (wr_id (by omega) (by omega)).trans (by omega)
      refine sem_loop tab_ok gamRi_ok mixed (by kernel_rfl) (O := lex) (fun b : Nat => ⟨[(0, .c (.sl 2 s.m (c2 s.lo s.hi))), (2, intV s.up), (3, intV s.dn), (11, .c (.sl 2 n (c2 P Q))), (12, intV e), (16, .own 0), (23, .own 1), (24, intV t), (25, intV (lwF (rG s (s.m - t)) k)), (26, intV (hwF (rG s (s.m - t)) k)), (27, intV k), (28, boolV (gKb s t k t k)), (29, boolV (bex (gP s t k) b)), (162, .gr 0 t 41), (163, intV 41), (164, intV k), (177, .gr 0 (t + 1) 41), (178, intV 41), (179, intV b)], [.grid 29 (s.m + 1) 41 (gK s t k), rrR (s.m - t) (fun i => lwF (rG s (s.m - (t + 1 + i))) 41) (fun i => hwF (rG s (s.m - (t + 1 + i))) 41)]⟩) (fun b => b ≤ 41) (fun b => 41 - b) ⟨0, [?_, ?_], Nat.zero_le _, ?_⟩ fun b hb1 => ?_
      rotate_left 2
      · refine Sub.of ?_ ?_ ?_
        repeat' (first | (refine And.intro ?_ ?_) | exact trivial | exact fun _ _ _ => hsc _ _ | (exact congrArg intV (by first | with_reducible rfl | with_reducible assumption)) | exact (rfl : AV.idsLt _ _ = true) | exact (rfl : _ = AV.ren _ (.own _)) | exact (rfl : _ = AV.ren _ (.fn _ _)) | exact (rfl : _ = AV.ren _ (.gh _)) | (exact congrArg intV (by assumption)) | (refine congrArg intV ((wr_id (by omega) (by omega)).trans (by omega))) | exact rfl | (simp only [NLc]; first | exact rfl | done) | exact all0 | exact fun h => Bool.noConfusion h | exact fun _ _ _ _ => rfl | omega)
      conv => whnf
      repeat' (first
        | (refine NilG.mk fun bn hbn hbx => ?_; conv => whnf)
        | (refine Both.mk ?_ ?_ <;> conv => whnf)
        | ((first | (refine MkG.box 1 rfl rfl rfl (by decide) ?_) | (refine MkG.box 2 rfl rfl rfl (by decide) ?_) | (refine MkG.box 3 rfl rfl rfl (by decide) ?_) | (refine MkG.row ?_)); conv => whnf)
        | (refine LitG.row ?_; conv => whnf)
        | exact trivial
        | (refine Br.mk (fun hb => ?_) (fun hb => ?_) <;> (first | (exfalso; revert hb; decide) | ((try simp only [BL] at hb) <;> (try simp only [DL] at hb) <;> (first | (exfalso; omega) | (conv => whnf)))))
        | (refine And.intro ?_ ?_; (focus (first | exact id | exact rfl | exact trivial | (intro hg; first | exact hg | exact rfl | (simp; done) | (simp at hg ⊢; assumption)) | omega | decide | exact is2_c _ _ _ | exact is1_c _ _ | exact isS_c _ _ | exact isB_c _ _ | exact Nat.le_refl _ | assumption | exact mulLe (by decide) (by omega) | exact mulLe2 (by decide) (by omega) (by omega) | (intros; simp only [BL] at *; omega) | (intros; (try simp only [BL] at *); (try simp only [DL] at *); omega) | (intros; simp only [BL] at *; rw [wr_id (by omega) (by omega)]; omega) | (intro h1 h2; exact Bool.and_eq_true_iff.2 ⟨h1, h2⟩) | first | exact ⟨rfl, by omega, by omega⟩ | (intros; simp_all; done))); conv => whnf)
        | (refine Or.inr (And.intro rfl ?_); first | (refine congrArg intV ?_) | (refine congrArg boolV ?_) | (refine tupII ?_ ?_) | (refine tupIII ?_ ?_ ?_) | (refine tupU ?_ ?_ ?_ ?_ ?_) | exact rfl))
      · have wbk : IntKind.i64.wrap ((b : Int) - k) = (b : Int) - k := wr_id (by omega) (by omega)
        have e29 : (bex (gP s t k) b || (gKb s t k (t + 1) b && inB (IntKind.i64.wrap ((b : Int) - k)) (IntKind.i64.wrap (0 - s.dn)) s.up)) = bex (gP s t k) (b + 1) := by rw [wbk, wd]; rfl
        refine ⟨b + 1, [?_, ?_], by omega, by omega, ?_⟩
        rotate_left 2
        refine Sub.of ?_ ?_ ?_
        repeat' (first | (exact (congrArg boolV e29 : _)) | (refine And.intro ?_ ?_) | exact trivial | exact fun _ _ _ => hsc _ _ | (exact congrArg intV (by first | with_reducible rfl | with_reducible assumption)) | exact (rfl : AV.idsLt _ _ = true) | exact (rfl : _ = AV.ren _ (.own _)) | exact (rfl : _ = AV.ren _ (.fn _ _)) | exact (rfl : _ = AV.ren _ (.gh _)) | (exact congrArg intV (by assumption)) | (refine congrArg intV ((wr_id (by omega) (by omega)).trans (by omega))) | exact rfl | (simp only [NLc]; first | exact rfl | done) | exact all0 | exact fun h => Bool.noConfusion h | exact fun _ _ _ _ => rfl | omega)
      all_goals (obtain rfl : b = 41 := by omega)
      · have h : rG s (s.m - t) k = true := by rw [← hv, Bool.and_eq_true]; assumption
        have f1 := lwF_1 h (by assumption)
        have f2 := hwF_1 h
        refine ⟨k + 1, [?_, ?_], by omega, by omega, ?_⟩
        rotate_left 2
        refine Sub.of ?_ ?_ ?_
        repeat' (first | (refine And.intro ?_ ?_) | exact trivial | exact fun _ _ _ => hsc _ _ | (exact congrArg intV (by first | with_reducible rfl | with_reducible assumption)) | exact (rfl : AV.idsLt _ _ = true) | exact (rfl : _ = AV.ren _ (.own _)) | exact (rfl : _ = AV.ren _ (.fn _ _)) | exact (rfl : _ = AV.ren _ (.gh _)) | (exact congrArg intV (by assumption)) | (refine congrArg intV ((wr_id (by omega) (by omega)).trans (by omega))) | exact rfl | (simp only [NLc]; first | exact rfl | done) | exact all0 | exact fun h => Bool.noConfusion h | exact fun _ _ _ _ => rfl | omega)
        exact fun a ha b hb => gK_st hv a b
      · have h : rG s (s.m - t) k = true := by rw [← hv, Bool.and_eq_true]; assumption
        have f1 := lwF_2 h (by assumption)
        have f2 := hwF_1 h
        refine ⟨k + 1, [?_, ?_], by omega, by omega, ?_⟩
        rotate_left 2
        refine Sub.of ?_ ?_ ?_
        repeat' (first | (refine And.intro ?_ ?_) | exact trivial | exact fun _ _ _ => hsc _ _ | (exact congrArg intV (by first | with_reducible rfl | with_reducible assumption)) | exact (rfl : AV.idsLt _ _ = true) | exact (rfl : _ = AV.ren _ (.own _)) | exact (rfl : _ = AV.ren _ (.fn _ _)) | exact (rfl : _ = AV.ren _ (.gh _)) | (exact congrArg intV (by assumption)) | (refine congrArg intV ((wr_id (by omega) (by omega)).trans (by omega))) | exact rfl | (simp only [NLc]; first | exact rfl | done) | exact all0 | exact fun h => Bool.noConfusion h | exact fun _ _ _ _ => rfl | omega)
        exact fun a ha b hb => gK_st hv a b
      · have h : ¬ rG s (s.m - t) k = true := by
          rw [← hv, Bool.and_eq_true]
          rintro ⟨h1, h2⟩
          rw [h1, h2] at hb
          rcases hb with h | h <;> cases h
        have f1 := lwF_3 h
        have f2 := hwF_3 h
        refine ⟨k + 1, [?_, ?_], by omega, by omega, ?_⟩
        rotate_left 2
        refine Sub.of ?_ ?_ ?_
        repeat' (first | (refine And.intro ?_ ?_) | exact trivial | exact fun _ _ _ => hsc _ _ | (exact congrArg intV (by first | with_reducible rfl | with_reducible assumption)) | exact (rfl : AV.idsLt _ _ = true) | exact (rfl : _ = AV.ren _ (.own _)) | exact (rfl : _ = AV.ren _ (.fn _ _)) | exact (rfl : _ = AV.ren _ (.gh _)) | (exact congrArg intV (by assumption)) | (refine congrArg intV ((wr_id (by omega) (by omega)).trans (by omega))) | exact rfl | (simp only [NLc]; first | exact rfl | done) | exact all0 | exact fun h => Bool.noConfusion h | exact fun _ _ _ _ => rfl | omega)
        exact fun a ha b hb => gK_st hv a b
    · have htm : t = s.m := by omega
      subst htm
      have h : rG s (s.m - s.m) k = true := by rw [← gT_G]; assumption
      have f1 := lwF_1 h hb
      have f2 := hwF_1 h
      refine ⟨k + 1, [?_, ?_], by omega, by omega, ?_⟩
      rotate_left 2
      refine Sub.of ?_ ?_ ?_
      repeat' (first | (refine And.intro ?_ ?_) | exact trivial | exact fun _ _ _ => hsc _ _ | (exact congrArg intV (by first | with_reducible rfl | with_reducible assumption)) | exact (rfl : AV.idsLt _ _ = true) | exact (rfl : _ = AV.ren _ (.own _)) | exact (rfl : _ = AV.ren _ (.fn _ _)) | exact (rfl : _ = AV.ren _ (.gh _)) | (exact congrArg intV (by assumption)) | (refine congrArg intV ((wr_id (by omega) (by omega)).trans (by omega))) | exact rfl | (simp only [NLc]; first | exact rfl | done) | exact all0 | exact fun h => Bool.noConfusion h | exact fun _ _ _ _ => rfl | omega)
      exact fun a ha b hb => gK_top a b ha
    · have htm : t = s.m := by omega
      subst htm
      have h : rG s (s.m - s.m) k = true := by rw [← gT_G]; assumption
      have f1 := lwF_2 h hb
      have f2 := hwF_1 h
      refine ⟨k + 1, [?_, ?_], by omega, by omega, ?_⟩
      rotate_left 2
      refine Sub.of ?_ ?_ ?_
      repeat' (first | (refine And.intro ?_ ?_) | exact trivial | exact fun _ _ _ => hsc _ _ | (exact congrArg intV (by first | with_reducible rfl | with_reducible assumption)) | exact (rfl : AV.idsLt _ _ = true) | exact (rfl : _ = AV.ren _ (.own _)) | exact (rfl : _ = AV.ren _ (.fn _ _)) | exact (rfl : _ = AV.ren _ (.gh _)) | (exact congrArg intV (by assumption)) | (refine congrArg intV ((wr_id (by omega) (by omega)).trans (by omega))) | exact rfl | (simp only [NLc]; first | exact rfl | done) | exact all0 | exact fun h => Bool.noConfusion h | exact fun _ _ _ _ => rfl | omega)
      exact fun a ha b hb => gK_top a b ha
    · have htm : t = s.m := by omega
      subst htm
      have h : ¬ rG s (s.m - s.m) k = true := by rw [← gT_G, hb]; decide
      have f1 := lwF_3 h
      have f2 := hwF_3 h
      refine ⟨k + 1, [?_, ?_], by omega, by omega, ?_⟩
      rotate_left 2
      refine Sub.of ?_ ?_ ?_
      repeat' (first | (refine And.intro ?_ ?_) | exact trivial | exact fun _ _ _ => hsc _ _ | (exact congrArg intV (by first | with_reducible rfl | with_reducible assumption)) | exact (rfl : AV.idsLt _ _ = true) | exact (rfl : _ = AV.ren _ (.own _)) | exact (rfl : _ = AV.ren _ (.fn _ _)) | exact (rfl : _ = AV.ren _ (.gh _)) | (exact congrArg intV (by assumption)) | (refine congrArg intV ((wr_id (by omega) (by omega)).trans (by omega))) | exact rfl | (simp only [NLc]; first | exact rfl | done) | exact all0 | exact fun h => Bool.noConfusion h | exact fun _ _ _ _ => rfl | omega)
      exact fun a ha b hb => gK_top a b ha
    · obtain rfl : k = 41 := by omega
      rcases hR2 with ⟨-, rfl, rfl⟩ | ⟨hf, -⟩
      · rfl
      · have h1 := (lw_c hok hS hf (d := s.m - t) (by omega)).1
        have h2 := cLH_b hok hf (d := s.m - t) (by omega)
        omega
    · obtain rfl : k = 41 := by omega
      have hf : rFine s s.m := by
        by_cases c : t < s.m
        · exact ht.2 c
        · by_cases hf : rFine s s.m
          · exact hf
          · exfalso
            have htm : t = s.m := by omega
            rw [htm, Nat.sub_self, lw_n hf] at hb
            exact hb (by decide)
      refine ⟨t - 1, [?_, ?_], ⟨by omega, fun _ => hf⟩, by omega, ?_⟩
      rotate_left 2
      refine Sub.of ?_ ?_ ?_
      repeat' (first | (refine And.intro ?_ ?_) | exact trivial | exact fun _ _ _ => hsc _ _ | (exact congrArg intV (by first | with_reducible rfl | with_reducible assumption)) | exact (rfl : AV.idsLt _ _ = true) | exact (rfl : _ = AV.ren _ (.own _)) | exact (rfl : _ = AV.ren _ (.fn _ _)) | exact (rfl : _ = AV.ren _ (.gh _)) | (exact congrArg intV (by assumption)) | (refine congrArg intV ((wr_id (by omega) (by omega)).trans (by omega))) | exact rfl | (simp only [NLc]; first | exact rfl | done) | exact all0 | exact fun h => Bool.noConfusion h | exact fun _ _ _ _ => rfl | omega)
      · exact fun a ha b hb => gK_nx ht0 a b hb
      · intro a ha b hb
        have hb : b < 2 := hb
        by_cases c : a < 1
        · obtain rfl : a = 0 := by omega
          have e0 : s.m - t = s.m - (t - 1 + 1 + 0) := by omega
          refine (if_pos c).trans ?_
          match b, hb with
          | 0, _ => exact congrArg (fun d => iL (lwF (rG s d) 41)) e0
          | 1, _ => exact congrArg (fun d => iL (hwF (rG s d) 41)) e0
        · have e0 : s.m - (t + 1 + (a - 1)) = s.m - (t - 1 + 1 + a) := by omega
          refine (if_neg c).trans ?_
          match b, hb with
          | 0, _ => exact congrArg (fun d => iL (lwF (rG s d) 41)) e0
          | 1, _ => exact congrArg (fun d => iL (hwF (rG s d) 41)) e0
theorem rampRanges_own : ownKnob Try.prog.godebug = none := by kernel_rfl
theorem rampRanges_laid : laidOutB Try.prog = true := by kernel_rfl

set_option maxRecDepth 100000 in
theorem rampRanges_lifted (os : Os) (started : os.Started) (H : Type) (enc : TypeId × Value → H) :
    ReturnsInHanded {} Try.checked os 3 .any (Rows.rampRangesSpec.pre6 enc Try.prog Try.f3 Rows.rampRangesRow.domain false) (Rows.rampRangesSpec.post enc Try.prog Try.f3 false true false false) := by
  refine returnsInHanded_of_change (C := Try.checked) rampRanges_own started (by kernel_rfl) Try.func3
    (ChangeSpec.witness6 (enc := enc) (C := Try.checked) false ⟨#[], #[.slice none 0 0, .int .i64 0, .int .i64 0, .int .i64 0], []⟩ 8 (by kernel_rfl) (by kernel_rfl) (by kernel_rfl) (by kernel_rfl)) ?_
  intro W base args ds gs before hval0 hW hcnd _
  have hval : ∀ (j : Nat) t v, Try.f3.params[j]? = some t → args[j]? = some v → Value.okWide Try.prog W .any base t v := hval0
  have hW' : DataW.Whole enc Try.prog Try.f3.params.toList Rows.rampRangesSpec.vars false W args.toList ds gs before := hW
  exact law_post (P := Try.prog) [.sl (.st (.cons (.i .i64) (.cons (.i .i64) .nil))), .i .i64, .i .i64, .i .i64] (by kernel_rfl) rampRanges_laid (by kernel_rfl) rfl (tb := 4) rfl (by kernel_rfl) (fun ds h => by
    match ds, h with
    | [d1, d2, d3, d4], _ => rfl) (fun x hx => rrLaw ⟨x.2.1, x.2.2.1, x.2.2.2.1, x.1.1, fun k => (x.1.2 k).1, fun k => (x.1.2 k).2.1⟩ hx.1.1) W args ds gs before hval hW'

theorem rampRanges_holds : Rows.RampRangesSaid :=
  OpenClaim.holds_of_wide 3 Try.f3 rfl rfl rfl rfl rfl rfl rfl ⟨rfl, rfl, rfl, rfl, rfl⟩ rfl rfl rfl rfl rfl (by kernel_rfl) Try.func3 (by kernel_rfl)
    (of_decide_eq_true (by kernel_rfl)) (by unfold Func.isWrapper; rw [if_neg (by decide +kernel)]; exact ⟨rfl, rfl⟩)
    (fun os started H enc _ => rampRanges_lifted os started H enc)
end Go.Proofs.Ytemfikdogdadnaa
