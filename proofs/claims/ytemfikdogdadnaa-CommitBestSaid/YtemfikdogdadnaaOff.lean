/-
  Offers: their check, their sums, and the references' forms of these.
-/
import Derived.Test.YtemfikdogdadnaaName
namespace Go.Proofs.Ytemfikdogdadnaa
open Go.RowKit

def offV (s : ByteArray) (n : Nat) (p q : Nat → Int) : AV := .agg [strV s, .c (.sl 2 n (c2 p q))]
/-- the error of step k -/
def stE (p q : Nat → Int) (k : Nat) : Int :=
  if p k < 1 ∨ 100000 < p k ∨ q k < -1000000 ∨ 1000000 < q k then 4 else if 0 < k ∧ q k < q (k - 1) then 3 else if 100000 < S p (k + 1) then 2 else 0
/-- the error of an offer -/
def offE (s : ByteArray) (n : Nat) (p q : Nat → Int) : Int := if nameB s = false then 6 else if 12 < n then 2 else fst (stE p q) n
def okOff (n : Nat) (p q : Nat → Int) : Prop := n ≤ 12 ∧ (∀ k, k < n → 1 ≤ p k ∧ p k ≤ 100000 ∧ -1000000 ≤ q k ∧ q k ≤ 1000000) ∧ (∀ k, k + 1 < n → q k ≤ q (k + 1)) ∧ ∀ k, k ≤ n → S p k ≤ 100000

theorem stE_zero {p q : Nat → Int} {k : Nat} (h : stE p q k = 0) : (1 ≤ p k ∧ p k ≤ 100000 ∧ -1000000 ≤ q k ∧ q k ≤ 1000000) ∧ (0 < k → q (k - 1) ≤ q k) ∧ S p (k + 1) ≤ 100000 := by
  unfold stE at h
  split at h
  · cases h
  · split at h
    · cases h
    · split at h
      · cases h
      · omega
theorem offE_zero {s : ByteArray} {n : Nat} {p q : Nat → Int} (h : offE s n p q = 0) : nameB s = true ∧ okOff n p q := by
  unfold offE at h
  split at h
  · cases h
  · rename_i hn
    split at h
    · cases h
    · refine ⟨by simpa using hn, by omega, fun k hk => (stE_zero (fst_zero h k hk)).1, fun k hk => ?_, fun k hk => ?_⟩
      · have := (stE_zero (fst_zero h (k + 1) hk)).2.1 (by omega)
        simpa using this
      · cases k with
        | zero => simp [S]
        | succ k => exact (stE_zero (fst_zero h k (by omega))).2.2

/-- the first steps' powers -/
def sB (P : Nat → Nat → (Nat → Int) → (Nat → Int) → Prop) (g : Nat → Nat → (Nat → Int) → (Nat → Int) → AV) : List AV → Sd × AV
  | [.agg [.c (.v (.string _)), .c (.sl 2 n f)], .c (.v (.int .i64 k))] => (.p (is2 n f ∧ 0 ≤ k ∧ P k.toNat n (d0 f) (d1 f)), g k.toNat n (d0 f) (d1 f))
  | _ => (.p False, .top)

theorem before (s : ByteArray) (n k : Nat) (p q : Nat → Int) (hk : k ≤ n) (hn : n ≤ 1000) (hp : ∀ i, i < k → 0 ≤ p i ∧ p i ≤ 1000000) : Fn1 Try.prog 99 [offV s n p q, intV k] (intV (S p k)) := by
  refine fn_of_wpx (O := lex) tab_ok gamN2_ok mixed Try.func99 (by kernel_rfl) rfl rfl rfl (by simp [Try.ntmps99]) (by kernel_rfl) ?_
  conv => whnf
  repeat' (first
    | (refine NilG.mk fun bn hbn hbx => ?_; conv => whnf)
    | (refine Both.mk ?_ ?_ <;> conv => whnf)
    | ((first | (refine MkG.box 1 rfl rfl rfl (by decide) ?_) | (refine MkG.box 2 rfl rfl rfl (by decide) ?_) | (refine MkG.box 3 rfl rfl rfl (by decide) ?_) | (refine MkG.row ?_)); conv => whnf)
    | exact trivial
    | (refine Br.mk (fun hb => ?_) (fun hb => ?_) <;> (first | (exfalso; revert hb; decide) | ((try simp only [BL] at hb) <;> (try simp only [DL] at hb) <;> conv => whnf)))
    | (refine And.intro ?_ ?_; (focus (first | exact id | exact rfl | exact trivial | (intro hg; first | exact hg | exact rfl | (simp; done) | (simp at hg ⊢; assumption)) | omega | decide | exact is2_c _ _ _ | exact is1_c _ _ | exact isS_c _ _ | exact isB_c _ _ | exact Nat.le_refl _ | assumption | exact mulLe (by decide) (by omega) | exact mulLe2 (by decide) (by omega) (by omega) | (intros; simp only [BL] at *; omega) | (intros; (try simp only [BL] at *); (try simp only [DL] at *); omega) | (intros; simp only [BL] at *; rw [wr_id (by omega) (by omega)]; omega) | (intro h1 h2; exact Bool.and_eq_true_iff.2 ⟨h1, h2⟩) | (intros; simp_all; done))); conv => whnf)
    | (refine Or.inr (And.intro rfl ?_); first | (refine congrArg intV ?_) | (refine congrArg boolV ?_) | (refine tupII ?_ ?_) | (refine tupIII ?_ ?_ ?_) | (refine tupU ?_ ?_ ?_ ?_ ?_) | exact rfl))
  refine sem_loop tab_ok gamN2_ok mixed (by kernel_rfl) (O := lex) (fun i : Nat => ⟨[(13, intV i), (12, intV k), (11, .c (.sl 2 k (c2 p q))), (5, intV (S p i))], []⟩) (fun i => i ≤ k) (fun i => k - i) ⟨0, [], Nat.zero_le _, ?_⟩ fun i hi => ?_
  · repeat' (first | (refine And.intro ?_ ?_) | exact trivial | exact fun _ _ _ => hsc _ _ | (exact congrArg intV (by first | with_reducible rfl | with_reducible assumption)) | exact (rfl : AV.idsLt _ _ = true) | exact (rfl : _ = AV.ren _ (.own _)) | exact (rfl : _ = AV.ren _ (.fn _ _)) | exact (rfl : _ = AV.ren _ (.gh _)) | (exact congrArg intV (by assumption)) | (refine congrArg intV ((wr_id (by omega) (by omega)).trans (by omega))) | exact rfl | (simp only [Int.toNat_natCast, Int.toNat_zero, Nat.sub_zero, Nat.zero_add]; first | exact rfl | done))
  conv => whnf
  repeat' (first
    | (refine NilG.mk fun bn hbn hbx => ?_; conv => whnf)
    | (refine Both.mk ?_ ?_ <;> conv => whnf)
    | ((first | (refine MkG.box 1 rfl rfl rfl (by decide) ?_) | (refine MkG.box 2 rfl rfl rfl (by decide) ?_) | (refine MkG.box 3 rfl rfl rfl (by decide) ?_) | (refine MkG.row ?_)); conv => whnf)
    | exact trivial
    | (refine Br.mk (fun hb => ?_) (fun hb => ?_) <;> (first | (exfalso; revert hb; decide) | ((try simp only [BL] at hb) <;> (try simp only [DL] at hb) <;> conv => whnf)))
    | (refine And.intro ?_ ?_; (focus (first | exact id | exact rfl | exact trivial | (intro hg; first | exact hg | exact rfl | (simp; done) | (simp at hg ⊢; assumption)) | omega | decide | exact is2_c _ _ _ | exact is1_c _ _ | exact isS_c _ _ | exact isB_c _ _ | exact Nat.le_refl _ | assumption | exact mulLe (by decide) (by omega) | exact mulLe2 (by decide) (by omega) (by omega) | (intros; simp only [BL] at *; omega) | (intros; (try simp only [BL] at *); (try simp only [DL] at *); omega) | (intros; simp only [BL] at *; rw [wr_id (by omega) (by omega)]; omega) | (intro h1 h2; exact Bool.and_eq_true_iff.2 ⟨h1, h2⟩) | (intros; simp_all; done))); conv => whnf)
    | (refine Or.inr (And.intro rfl ?_); first | (refine congrArg intV ?_) | (refine congrArg boolV ?_) | (refine tupII ?_ ?_) | (refine tupIII ?_ ?_ ?_) | (refine tupU ?_ ?_ ?_ ?_ ?_) | exact rfl))
  · have hS := S_le (p := p) (a := 0) (b := 1000000) (k := i) fun j hj => hp j (by omega)
    have hpi := hp i (by omega)
    have e1 : IntKind.i64.wrap (S p i + p i) = S p (i + 1) := wr_id (by omega) (by omega)
    refine ⟨i + 1, [], by omega, by omega, ?_⟩
    repeat' (first | (refine And.intro ?_ ?_) | exact trivial | exact fun _ _ _ => hsc _ _ | (exact congrArg intV (by first | with_reducible rfl | with_reducible assumption)) | exact (rfl : AV.idsLt _ _ = true) | exact (rfl : _ = AV.ren _ (.own _)) | exact (rfl : _ = AV.ren _ (.fn _ _)) | exact (rfl : _ = AV.ren _ (.gh _)) | (exact congrArg intV (by assumption)) | (refine congrArg intV ((wr_id (by omega) (by omega)).trans (by omega))) | exact rfl | (simp only [Int.toNat_natCast, Int.toNat_zero, Nat.sub_zero, Nat.zero_add]; first | exact rfl | done))
  · rw [show i = k by omega]

def sBf (g : (Nat → Int) → Nat → Int) : List AV → Sd × AV
  | [.agg [.c (.v (.string _)), .c (.sl 2 n f)], .c (.v (.int .i64 k))] => (.p (is2 n f ∧ 0 ≤ k ∧ k ≤ n ∧ n ≤ 1000 ∧ ∀ i, i < k.toNat → 0 ≤ d0 f i ∧ d0 f i ≤ 1000000), intV (g (d0 f) k.toNat))
  | _ => (.p False, .top)
theorem offV_le {s : ByteArray} {n : Nat} {f : Nat → Nat → L} (h : is2 n f) : Le1 (.agg [.c (.v (.string s)), .c (.sl 2 n f)]) (offV s n (d0 f) (d1 f)) :=
  Le1.agg (Le.cons (Le1.refl _) (Le.cons (Le1.sl h) Le.nil))
def gamO1 : Gam := fun f => match f with
  | 10 => some (s3 inB)
  | 99 => some (sBf S)
  | 115 => some (s1S (fun s => s.size ≤ maxLen) nameB)
  | 38 => some (s1S (fun s => s.size ≤ maxLen) nameB)
  | _ => none
theorem before_ok : ∀ args, (sBf S args).1.ok → (sBf S args).2.exact.isSome = true → Fn1 Try.prog 99 args (sBf S args).2 := fun args hs _ => by
  unfold sBf at hs ⊢
  split at hs
  · rename_i s n f k _
    obtain ⟨h1, h2, h3, h4, h5⟩ := hs
    have := before s n k.toNat (d0 f) (d1 f) (by omega) h4 h5
    rw [Int.toNat_of_nonneg h2] at this
    exact this.le (Le.cons (offV_le h1) (Le.cons (Le1.refl _) Le.nil))
  · exact hs.elim
theorem gamO1_ok : GOk Try.prog gamO1 := fun f g h => by
  unfold gamO1 at h
  split at h
  · injection h with h; subst h; exact s3_ok in3
  · injection h with h; subst h; exact before_ok
  · injection h with h; subst h; exact s1S_ok named3
  · injection h with h; subst h; exact s1S_ok name1
  · cases h

theorem offCheck (s : ByteArray) (n : Nat) (p q : Nat → Int) (hs : s.size ≤ maxLen) (hn : n ≤ maxLen) : Fn1 Try.prog 107 [offV s n p q] (intV (offE s n p q)) := by
  refine fn_of_wpx (O := lex) tab_ok gamO1_ok mixed Try.func107 (by kernel_rfl) rfl rfl rfl (by simp [Try.ntmps107]) (by kernel_rfl) ?_
  have hn' : n ≤ 9223372036854775807 := hn
  conv => whnf
  repeat' (first
    | (refine NilG.mk fun bn hbn hbx => ?_; conv => whnf)
    | (refine Both.mk ?_ ?_ <;> conv => whnf)
    | ((first | (refine MkG.box 1 rfl rfl rfl (by decide) ?_) | (refine MkG.box 2 rfl rfl rfl (by decide) ?_) | (refine MkG.box 3 rfl rfl rfl (by decide) ?_) | (refine MkG.row ?_)); conv => whnf)
    | exact trivial
    | (refine Br.mk (fun hb => ?_) (fun hb => ?_) <;> (first | (exfalso; revert hb; decide) | ((try simp only [BL] at hb) <;> (try simp only [DL] at hb) <;> conv => whnf)))
    | (refine And.intro ?_ ?_; (focus (first | exact id | exact rfl | exact trivial | (intro hg; first | exact hg | exact rfl | (simp; done) | (simp at hg ⊢; assumption)) | omega | decide | exact is2_c _ _ _ | exact is1_c _ _ | exact isS_c _ _ | exact isB_c _ _ | exact Nat.le_refl _ | assumption | exact mulLe (by decide) (by omega) | exact mulLe2 (by decide) (by omega) (by omega) | (intros; simp only [BL] at *; omega) | (intros; (try simp only [BL] at *); (try simp only [DL] at *); omega) | (intros; simp only [BL] at *; rw [wr_id (by omega) (by omega)]; omega) | (intro h1 h2; exact Bool.and_eq_true_iff.2 ⟨h1, h2⟩) | (intros; simp_all; done))); conv => whnf)
    | (refine Or.inr (And.intro rfl ?_); first | (refine congrArg intV ?_) | (refine congrArg boolV ?_) | (refine tupII ?_ ?_) | (refine tupIII ?_ ?_ ?_) | (refine tupU ?_ ?_ ?_ ?_ ?_) | exact rfl))
  · simp [offE, hb]
  · rename_i h1
    simp only [offE]
    rw [if_neg (by simp [h1]), if_pos (by omega)]
  rename_i h1
  have hE : offE s n p q = fst (stE p q) n := by
    simp only [offE]
    rw [if_neg (by simp [h1]), if_neg (by omega)]
  have hn12 : n ≤ 12 := by omega
  clear hb
  rw [hE]
  refine sem_loop tab_ok gamO1_ok mixed (by kernel_rfl) (O := lex) (fun i : Nat => ⟨[(19, intV i), (18, intV n), (17, .c (.sl 2 n (c2 p q))), (3, intV (S p i)), (1, .lp 0 0)], [.box [strV s, .c (.sl 2 n (c2 p q))]]⟩) (fun i => i ≤ n ∧ fst (stE p q) i = 0) (fun i => n - i) ⟨0, [0], ⟨Nat.zero_le _, rfl⟩, ?_⟩ fun i hi => ?_
  · repeat' (first | (refine And.intro ?_ ?_) | exact trivial | exact fun _ _ _ => hsc _ _ | (exact congrArg intV (by first | with_reducible rfl | with_reducible assumption)) | exact (rfl : AV.idsLt _ _ = true) | exact (rfl : _ = AV.ren _ (.own _)) | exact (rfl : _ = AV.ren _ (.fn _ _)) | exact (rfl : _ = AV.ren _ (.gh _)) | (exact congrArg intV (by assumption)) | (refine congrArg intV ((wr_id (by omega) (by omega)).trans (by omega))) | exact rfl | (simp only [Int.toNat_natCast, Int.toNat_zero, Nat.sub_zero, Nat.zero_add]; first | exact rfl | done))
  have hall := fun k hk => stE_zero (fst_zero hi.2 k hk)
  have hS := S_le (p := p) (a := 0) (b := 100000) (k := i) fun j hj => by have := hall j hj; omega
  conv => whnf
  repeat' (first
    | (refine NilG.mk fun bn hbn hbx => ?_; conv => whnf)
    | (refine Both.mk ?_ ?_ <;> conv => whnf)
    | ((first | (refine MkG.box 1 rfl rfl rfl (by decide) ?_) | (refine MkG.box 2 rfl rfl rfl (by decide) ?_) | (refine MkG.box 3 rfl rfl rfl (by decide) ?_) | (refine MkG.row ?_)); conv => whnf)
    | exact trivial
    | (refine Br.mk (fun hb => ?_) (fun hb => ?_) <;> (first | (exfalso; revert hb; decide) | ((try simp only [BL] at hb) <;> (try simp only [DL] at hb) <;> conv => whnf)))
    | (refine And.intro ?_ ?_; (focus (first | exact id | exact rfl | exact trivial | (intro hg; first | exact hg | exact rfl | (simp; done) | (simp at hg ⊢; assumption)) | omega | decide | exact is2_c _ _ _ | exact is1_c _ _ | exact isS_c _ _ | exact isB_c _ _ | exact Nat.le_refl _ | assumption | exact mulLe (by decide) (by omega) | exact mulLe2 (by decide) (by omega) (by omega) | (intros; simp only [BL] at *; omega) | (intros; (try simp only [BL] at *); (try simp only [DL] at *); omega) | (intros; simp only [BL] at *; rw [wr_id (by omega) (by omega)]; omega) | (intro h1 h2; exact Bool.and_eq_true_iff.2 ⟨h1, h2⟩) | (intros; simp_all; done))); conv => whnf)
    | (refine Or.inr (And.intro rfl ?_); first | (refine congrArg intV ?_) | (refine congrArg boolV ?_) | (refine tupII ?_ ?_) | (refine tupIII ?_ ?_ ?_) | (refine tupU ?_ ?_ ?_ ?_ ?_) | exact rfl))
  · exact fst_eq hi.2 (by omega) (by simp only [stE]; rw [if_pos (by omega)]) (by decide)
  · have ei : (IntKind.i64.wrap (↑i - 1 : Int)).toNat = i - 1 := by rw [wr_id (by omega) (by omega)]; omega
    rw [ei] at hb
    exact fst_eq hi.2 (by omega) (by simp only [stE]; rw [if_neg (by omega), if_pos (by omega)]) (by decide)
  · have ei : (IntKind.i64.wrap (↑i - 1 : Int)).toNat = i - 1 := by rw [wr_id (by omega) (by omega)]; omega
    rename_i h2
    rw [ei] at h2
    rw [wr_id (by omega) (by omega)] at hb
    have hSS : S p (i + 1) = S p i + p i := rfl
    exact fst_eq hi.2 (by omega) (by simp only [stE]; rw [if_neg (by omega), if_neg (by omega), if_pos (by omega)]) (by decide)
  · have ei : (IntKind.i64.wrap (↑i - 1 : Int)).toNat = i - 1 := by rw [wr_id (by omega) (by omega)]; omega
    rename_i h2
    rw [ei] at h2
    have e1 : IntKind.i64.wrap (S p i + p i) = S p (i + 1) := wr_id (by omega) (by omega)
    rw [e1] at hb
    refine ⟨i + 1, [0], ⟨by omega, ?_⟩, by omega, ?_⟩
    · exact fst_next hi.2 (by simp only [stE]; rw [if_neg (by omega), if_neg (by omega), if_neg (by omega)])
    · repeat' (first | (refine And.intro ?_ ?_) | exact trivial | exact fun _ _ _ => hsc _ _ | (exact congrArg intV (by first | with_reducible rfl | with_reducible assumption)) | exact (rfl : AV.idsLt _ _ = true) | exact (rfl : _ = AV.ren _ (.own _)) | exact (rfl : _ = AV.ren _ (.fn _ _)) | exact (rfl : _ = AV.ren _ (.gh _)) | (exact congrArg intV (by assumption)) | (refine congrArg intV ((wr_id (by omega) (by omega)).trans (by omega))) | exact rfl | (simp only [Int.toNat_natCast, Int.toNat_zero, Nat.sub_zero, Nat.zero_add]; first | exact rfl | done))
  · rw [show n = i by omega, hi.2]

theorem offError (s : ByteArray) (n : Nat) (p q : Nat → Int) (hs : s.size ≤ maxLen) (hn : n ≤ maxLen) : Fn1 Try.prog 97 [offV s n p q] (intV (offE s n p q)) := by
  refine fn_of_wpx (O := lex) tab_ok gamO1_ok mixed Try.func97 (by kernel_rfl) rfl rfl rfl (by simp [Try.ntmps97]) (by kernel_rfl) ?_
  have hn' : n ≤ 9223372036854775807 := hn
  conv => whnf
  repeat' (first
    | (refine NilG.mk fun bn hbn hbx => ?_; conv => whnf)
    | (refine Both.mk ?_ ?_ <;> conv => whnf)
    | ((first | (refine MkG.box 1 rfl rfl rfl (by decide) ?_) | (refine MkG.box 2 rfl rfl rfl (by decide) ?_) | (refine MkG.box 3 rfl rfl rfl (by decide) ?_) | (refine MkG.row ?_)); conv => whnf)
    | exact trivial
    | (refine Br.mk (fun hb => ?_) (fun hb => ?_) <;> (first | (exfalso; revert hb; decide) | ((try simp only [BL] at hb) <;> (try simp only [DL] at hb) <;> conv => whnf)))
    | (refine And.intro ?_ ?_; (focus (first | exact id | exact rfl | exact trivial | (intro hg; first | exact hg | exact rfl | (simp; done) | (simp at hg ⊢; assumption)) | omega | decide | exact is2_c _ _ _ | exact is1_c _ _ | exact isS_c _ _ | exact isB_c _ _ | exact Nat.le_refl _ | assumption | exact mulLe (by decide) (by omega) | exact mulLe2 (by decide) (by omega) (by omega) | (intros; simp only [BL] at *; omega) | (intros; (try simp only [BL] at *); (try simp only [DL] at *); omega) | (intros; simp only [BL] at *; rw [wr_id (by omega) (by omega)]; omega) | (intro h1 h2; exact Bool.and_eq_true_iff.2 ⟨h1, h2⟩) | (intros; simp_all; done))); conv => whnf)
    | (refine Or.inr (And.intro rfl ?_); first | (refine congrArg intV ?_) | (refine congrArg boolV ?_) | (refine tupII ?_ ?_) | (refine tupIII ?_ ?_ ?_) | (refine tupU ?_ ?_ ?_ ?_ ?_) | exact rfl))
  · simp [offE, hb]
  · rename_i h1
    simp only [offE]
    rw [if_neg (by simp [h1]), if_pos (by omega)]
  rename_i h1
  have hE : offE s n p q = fst (stE p q) n := by
    simp only [offE]
    rw [if_neg (by simp [h1]), if_neg (by omega)]
  have hn12 : n ≤ 12 := by omega
  clear hb
  rw [hE]
  refine sem_loop tab_ok gamO1_ok mixed (by kernel_rfl) (O := lex) (fun i : Nat => ⟨[(16, intV i), (15, intV n), (14, .c (.sl 2 n (c2 p q))), (1, .lp 0 0)], [.box [strV s, .c (.sl 2 n (c2 p q))]]⟩) (fun i => i ≤ n ∧ fst (stE p q) i = 0) (fun i => n - i) ⟨0, [0], ⟨Nat.zero_le _, rfl⟩, ?_⟩ fun i hi => ?_
  · repeat' (first | (refine And.intro ?_ ?_) | exact trivial | exact fun _ _ _ => hsc _ _ | (exact congrArg intV (by first | with_reducible rfl | with_reducible assumption)) | exact (rfl : AV.idsLt _ _ = true) | exact (rfl : _ = AV.ren _ (.own _)) | exact (rfl : _ = AV.ren _ (.fn _ _)) | exact (rfl : _ = AV.ren _ (.gh _)) | (exact congrArg intV (by assumption)) | (refine congrArg intV ((wr_id (by omega) (by omega)).trans (by omega))) | exact rfl | (simp only [Int.toNat_natCast, Int.toNat_zero, Nat.sub_zero, Nat.zero_add]; first | exact rfl | done))
  have hall := fun k hk => stE_zero (fst_zero hi.2 k hk)
  have hS := S_le (p := p) (a := 0) (b := 100000) (k := i) fun j hj => by have := hall j hj; omega
  have hi1 : IntKind.i64.wrap (↑i + 1 : Int) = ((i + 1 : Nat) : Int) := by rw [wr_id (by omega) (by omega)]; omega
  conv => whnf
  repeat' (first
    | (refine NilG.mk fun bn hbn hbx => ?_; conv => whnf)
    | (refine Both.mk ?_ ?_ <;> conv => whnf)
    | ((first | (refine MkG.box 1 rfl rfl rfl (by decide) ?_) | (refine MkG.box 2 rfl rfl rfl (by decide) ?_) | (refine MkG.box 3 rfl rfl rfl (by decide) ?_) | (refine MkG.row ?_)); conv => whnf)
    | exact trivial
    | (refine Br.mk (fun hb => ?_) (fun hb => ?_) <;> (first | (exfalso; revert hb; decide) | ((try simp only [BL] at hb) <;> (try simp only [DL] at hb) <;> conv => whnf)))
    | (refine And.intro ?_ ?_; (focus (first | exact id | exact rfl | exact trivial | (intro hg; first | exact hg | exact rfl | (simp; done) | (simp at hg ⊢; assumption)) | omega | decide | exact is2_c _ _ _ | exact is1_c _ _ | exact isS_c _ _ | exact isB_c _ _ | exact Nat.le_refl _ | assumption | exact mulLe (by decide) (by omega) | exact mulLe2 (by decide) (by omega) (by omega) | (intros; simp only [BL] at *; omega) | (intros; (try simp only [BL] at *); (try simp only [DL] at *); omega) | (intros; simp only [BL] at *; rw [wr_id (by omega) (by omega)]; omega) | (intro h1 h2; exact Bool.and_eq_true_iff.2 ⟨h1, h2⟩) | (intros; simp_all; done))); conv => whnf)
    | (refine Or.inr (And.intro rfl ?_); first | (refine congrArg intV ?_) | (refine congrArg boolV ?_) | (refine tupII ?_ ?_) | (refine tupIII ?_ ?_ ?_) | (refine tupU ?_ ?_ ?_ ?_ ?_) | exact rfl))
  · exact fst_eq hi.2 (by omega) (by simp only [stE]; rw [if_pos (by omega)]) (by decide)
  · have ei : (IntKind.i64.wrap (↑i - 1 : Int)).toNat = i - 1 := by rw [wr_id (by omega) (by omega)]; omega
    rw [ei] at hb
    exact fst_eq hi.2 (by omega) (by simp only [stE]; rw [if_neg (by omega), if_pos (by omega)]) (by decide)
  · have ei : (IntKind.i64.wrap (↑i - 1 : Int)).toNat = i - 1 := by rw [wr_id (by omega) (by omega)]; omega
    rename_i h2
    rw [ei] at hb
    have hp1 : ∀ j, j < i + 1 → 0 ≤ p j ∧ p j ≤ 1000000 := fun j hj => by
      rcases Nat.lt_succ_iff_lt_or_eq.1 hj with h | rfl
      · have := hall j h
        omega
      · omega
    refine And.intro (by rw [hi1]; exact ⟨is2_c _ _ _, by omega, by omega, by omega, fun j hj => hp1 j (by rwa [Int.toNat_natCast] at hj)⟩) ?_
    conv => whnf
    repeat' (first
      | (refine NilG.mk fun bn hbn hbx => ?_; conv => whnf)
      | (refine Both.mk ?_ ?_ <;> conv => whnf)
      | ((first | (refine MkG.box 1 rfl rfl rfl (by decide) ?_) | (refine MkG.box 2 rfl rfl rfl (by decide) ?_) | (refine MkG.box 3 rfl rfl rfl (by decide) ?_) | (refine MkG.row ?_)); conv => whnf)
      | exact trivial
      | (refine Br.mk (fun hb => ?_) (fun hb => ?_) <;> (first | (exfalso; revert hb; decide) | ((try simp only [BL] at hb) <;> (try simp only [DL] at hb) <;> conv => whnf)))
      | (refine And.intro ?_ ?_; (focus (first | exact id | exact rfl | exact trivial | (intro hg; first | exact hg | exact rfl | (simp; done) | (simp at hg ⊢; assumption)) | omega | decide | exact is2_c _ _ _ | exact is1_c _ _ | exact isS_c _ _ | exact isB_c _ _ | exact Nat.le_refl _ | assumption | exact mulLe (by decide) (by omega) | exact mulLe2 (by decide) (by omega) (by omega) | (intros; simp only [BL] at *; omega) | (intros; (try simp only [BL] at *); (try simp only [DL] at *); omega) | (intros; simp only [BL] at *; rw [wr_id (by omega) (by omega)]; omega) | (intro h1 h2; exact Bool.and_eq_true_iff.2 ⟨h1, h2⟩) | (intros; simp_all; done))); conv => whnf)
      | (refine Or.inr (And.intro rfl ?_); first | (refine congrArg intV ?_) | (refine congrArg boolV ?_) | (refine tupII ?_ ?_) | (refine tupIII ?_ ?_ ?_) | (refine tupU ?_ ?_ ?_ ?_ ?_) | exact rfl))
    · rw [hi1, Int.toNat_natCast] at hb
      exact fst_eq hi.2 (by omega) (by simp only [stE]; rw [if_neg (by omega), if_neg (by omega), if_pos (by omega)]) (by decide)
    · rename_i h3
      rw [hi1, Int.toNat_natCast] at hb
      refine ⟨i + 1, [0], ⟨by omega, ?_⟩, by omega, ?_⟩
      · exact fst_next hi.2 (by simp only [stE]; rw [if_neg (by omega), if_neg (by omega), if_neg (by omega)])
      · repeat' (first | (refine And.intro ?_ ?_) | exact trivial | exact fun _ _ _ => hsc _ _ | (exact congrArg intV (by first | with_reducible rfl | with_reducible assumption)) | exact (rfl : AV.idsLt _ _ = true) | exact (rfl : _ = AV.ren _ (.own _)) | exact (rfl : _ = AV.ren _ (.fn _ _)) | exact (rfl : _ = AV.ren _ (.gh _)) | (exact congrArg intV (by assumption)) | (refine congrArg intV ((wr_id (by omega) (by omega)).trans (by omega))) | exact rfl | (simp only [Int.toNat_natCast, Int.toNat_zero, Nat.sub_zero, Nat.zero_add]; first | exact rfl | done))
  · rw [show n = i by omega, hi.2]

end Go.Proofs.Ytemfikdogdadnaa
