/-
  The package reserve: Check, Possible, Held, Outage, and the law's error of units.
-/
import Derived.Test.YtdakikgebfphmaaDsp
namespace Go.Proofs.Ytdakikgebfphmaa
open Go.RowKit

/-- a list of units -/
def cRu (s : Nat → ByteArray) (m : Nat → Nat) (p q : Nat → Nat → Int) (g : Nat → Int) : Nat → Nat → L := fun k j => [sL (s k), .sl 2 (m k) (c2 (p k) (q k)), iL (g k)].getD j .un
def ruV (s : ByteArray) (n : Nat) (p q : Nat → Int) (g : Int) : AV := .agg [strV s, .c (.sl 2 n (c2 p q)), intV g]
def dI2 (f : Nat → Nat → L) : Nat → Int := fun k => (f k 2).toI
def isRu (n : Nat) (f : Nat → Nat → L) : Prop := ShL n 3 f (cRu (dS f) (oM f) (oP f) (oQ f) (dI2 f)) ∧ n * 40 ≤ 140737488355328 ∧ ∀ k, k < n → (dS f k).size ≤ maxLen ∧ oM f k ≤ maxLen
theorem isRu_c {n : Nat} {s : Nat → ByteArray} {m : Nat → Nat} {p q : Nat → Nat → Int} {g : Nat → Int} (hn : n * 40 ≤ 140737488355328) (hk : ∀ k, k < n → (s k).size ≤ maxLen ∧ m k ≤ maxLen) : isRu n (cRu s m p q g) :=
  ⟨fun _ _ _ _ => LLe.of_eq rfl, hn, hk⟩

/-- the reserve of unit k is out of range -/
def bG (g : Nat → Int) (k : Nat) : Bool := decide (g k < 0) || decide (g k > 100000)
def unE (n : Nat) (s : Nat → ByteArray) (m : Nat → Nat) (p q : Nat → Nat → Int) (g : Nat → Int) : Int := if offsE n s m p q ≠ 0 then offsE n s m p q else if fidx (bG g) n ≥ 0 then 4 else 0
theorem unE_zero {n : Nat} {s : Nat → ByteArray} {m : Nat → Nat} {p q : Nat → Nat → Int} {g : Nat → Int} (h : unE n s m p q g = 0) : n ≤ 10 ∧ ∀ k, k < n → okOff (m k) (p k) (q k) ∧ 0 ≤ S (p k) (m k) ∧ S (p k) (m k) ≤ 100000 ∧ 0 ≤ g k ∧ g k ≤ 100000 := by
  unfold unE at h
  split at h
  · rename_i h0; exact absurd h h0
  · rename_i h0
    split at h
    · cases h
    · rename_i h1
      obtain ⟨hn, hall⟩ := offsE_zero (show offsE n s m p q = 0 by simpa using h0)
      refine ⟨hn, fun k hk => ?_⟩
      have h2 := fidx_neg h1 k hk
      simp only [bG, Bool.or_eq_false_iff, decide_eq_false_iff_not] at h2
      have := hall k hk
      exact ⟨this.2.1, this.2.2.2, this.2.2.1, by omega, by omega⟩
/-- what unit k holds at a power -/
def hK (m : Nat → Nat) (p : Nat → Nat → Int) (g x : Nat → Int) (k : Nat) : Int := min (g k) (S (p k) (m k) - x k)
def heE (n nx : Nat) (s : Nat → ByteArray) (m : Nat → Nat) (p q : Nat → Nat → Int) (g x : Nat → Int) : Int := if unE n s m p q g ≠ 0 then unE n s m p q g else if nx ≠ n then 3 else fst (pwE m p x) n
theorem hsum {n i : Nat} {s : Nat → ByteArray} {m : Nat → Nat} {p q : Nat → Nat → Int} {g x : Nat → Int} (h0 : unE n s m p q g = 0) (hi : i ≤ n) (hx : ∀ j, j < i → 0 ≤ x j ∧ x j ≤ S (p j) (m j)) : 0 ≤ S (hK m p g x) i ∧ S (hK m p g x) i ≤ 1000000 := by
  obtain ⟨hn, hall⟩ := unE_zero h0
  have := S_le (p := hK m p g x) (a := 0) (b := 100000) (k := i) fun j hj => by
    have := hall j (by omega)
    have := hx j hj
    unfold hK
    omega
  omega

def gamR0 : Gam := fun f => match f with
  | 76 => some (sO (fun _ n p q => okOff n p q) fun _ n p _ => intV (S p n))
  | _ => none
theorem gamR0_ok : GOk Try.prog gamR0 := fun f g h => by
  unfold gamR0 at h
  split at h
  · injection h with h; subst h; exact sO_ok offSum
  · cases h

theorem resHeld (s : ByteArray) (n : Nat) (p q : Nat → Int) (g x : Int) (h : okOff n p q ∧ 0 ≤ x ∧ x ≤ 1000000) : Fn1 Try.prog 77 [ruV s n p q g, intV x] (intV (min g (S p n - x))) := by
  refine fn_of_wpx (O := lex) tab_ok gamR0_ok mixed Try.func77 (by kernel_rfl) rfl rfl rfl (by simp [Try.ntmps77]) (by kernel_rfl) ?_
  have hS := h.1.S0 (Nat.le_refl n)
  conv => whnf
  repeat' (first
    | (refine NilG.mk fun bn hbn => ?_; conv => whnf)
    | (refine Both.mk ?_ ?_ <;> conv => whnf)
    | exact trivial
    | (refine Br.mk (fun hb => ?_) (fun hb => ?_) <;> (first | (exfalso; revert hb; decide) | ((try simp only [BL] at hb) <;> (try simp only [DL] at hb) <;> conv => whnf)))
    | (refine And.intro ?_ ?_; (focus (first | exact id | exact rfl | exact trivial | (intro hg; first | exact hg | exact rfl | (simp; done) | (simp at hg ⊢; assumption)) | omega | decide | exact is2_c _ _ _ | exact is1_c _ _ | exact isS_c _ _ | exact isB_c _ _ | exact Nat.le_refl _ | assumption | exact mulLe (by decide) (by omega) | exact mulLe2 (by decide) (by omega) (by omega) | (intros; simp only [BL] at *; omega) | (intros; (try simp only [BL] at *); (try simp only [DL] at *); omega) | (intros; simp only [BL] at *; rw [wr_id (by omega) (by omega)]; omega) | (intro h1 h2; exact Bool.and_eq_true_iff.2 ⟨h1, h2⟩) | exact ⟨is2_c _ _ _, h.1⟩ | (intros; simp_all; done))); conv => whnf)
    | (refine Or.inr (And.intro rfl ?_); first | (refine congrArg intV ?_) | (refine congrArg boolV ?_) | (refine tupII ?_ ?_) | (refine tupIII ?_ ?_ ?_) | (refine tupU ?_ ?_ ?_ ?_ ?_) | exact rfl))
  · show min g (IntKind.i64.wrap (S p n - x)) = min g (S p n - x)
    rw [wr_id (by omega) (by omega)]

def sRui (P : Nat → (Nat → Int) → (Nat → Int) → Int → Prop) (gg : Nat → (Nat → Int) → Int → Int → AV) : List AV → Sd × AV
  | [.agg [.c (.v (.string _)), .c (.sl 2 n f), .c (.v (.int .i64 g))], .c (.v (.int .i64 x))] => (.p (is2 n f ∧ P n (d0 f) (d1 f) x), gg n (d0 f) g x)
  | _ => (.p False, .top)
theorem sRui_ok {f : FuncId} {P} {gg} (h : ∀ s n p q g x, P n p q x → Fn1 Try.prog f [ruV s n p q g, intV x] (gg n p g x)) : ∀ args, (sRui P gg args).1.ok → (sRui P gg args).2.exact.isSome = true → Fn1 Try.prog f args (sRui P gg args).2 := fun args hs _ => by
  unfold sRui at hs ⊢
  split at hs
  · exact (h _ _ _ _ _ _ hs.2).le (Le.cons (Le1.agg (Le.cons (Le1.refl _) (Le.cons (Le1.sl hs.1) (Le.cons (Le1.refl _) Le.nil)))) (Le.cons (Le1.refl _) Le.nil))
  · exact hs.elim

theorem f79 (s : ByteArray) (n : Nat) (p q : Nat → Int) (g : Int) : Fn1 Try.prog 79 [ruV s n p q g] (boolV (decide (g < 0) || decide (g > 100000))) := by
  refine fn_of_wpx (O := lex) tab_ok gamR0_ok mixed Try.func79 (by kernel_rfl) rfl rfl rfl (by simp [Try.ntmps79]) (by kernel_rfl) ?_
  conv => whnf
  repeat' (first
    | (refine NilG.mk fun bn hbn => ?_; conv => whnf)
    | (refine Both.mk ?_ ?_ <;> conv => whnf)
    | exact trivial
    | (refine Br.mk (fun hb => ?_) (fun hb => ?_) <;> (first | (exfalso; revert hb; decide) | ((try simp only [BL] at hb) <;> (try simp only [DL] at hb) <;> conv => whnf)))
    | (refine And.intro ?_ ?_; (focus (first | exact id | exact rfl | exact trivial | (intro hg; first | exact hg | exact rfl | (simp; done) | (simp at hg ⊢; assumption)) | omega | decide | exact is2_c _ _ _ | exact is1_c _ _ | exact isS_c _ _ | exact isB_c _ _ | exact Nat.le_refl _ | assumption | exact mulLe (by decide) (by omega) | exact mulLe2 (by decide) (by omega) (by omega) | (intros; simp only [BL] at *; omega) | (intros; (try simp only [BL] at *); (try simp only [DL] at *); omega) | (intros; simp only [BL] at *; rw [wr_id (by omega) (by omega)]; omega) | (intro h1 h2; exact Bool.and_eq_true_iff.2 ⟨h1, h2⟩) | (intros; simp_all; done))); conv => whnf)
    | (refine Or.inr (And.intro rfl ?_); first | (refine congrArg intV ?_) | (refine congrArg boolV ?_) | (refine tupII ?_ ?_) | (refine tupIII ?_ ?_ ?_) | (refine tupU ?_ ?_ ?_ ?_ ?_) | exact rfl))
  all_goals rfl

theorem idxRu (s : Nat → ByteArray) (m : Nat → Nat) (p q : Nat → Nat → Int) (g : Nat → Int) (n : Nat) (hn : n ≤ maxLen) : Fn1 Try.prog 118 [.c (.sl 3 n (cRu s m p q g)), .fn 79 []] (intV (fidx (bG g) n)) := by
  refine fn_of_wpx (O := lex) tab_ok gamR0_ok mixed Try.func118 (by kernel_rfl) rfl rfl rfl (by simp [Try.ntmps118]) (by kernel_rfl) ?_
  have hn' : n ≤ 9223372036854775807 := hn
  conv => whnf
  repeat' (first
    | (refine NilG.mk fun bn hbn => ?_; conv => whnf)
    | (refine Both.mk ?_ ?_ <;> conv => whnf)
    | exact trivial
    | (refine Br.mk (fun hb => ?_) (fun hb => ?_) <;> (first | (exfalso; revert hb; decide) | ((try simp only [BL] at hb) <;> (try simp only [DL] at hb) <;> conv => whnf)))
    | (refine And.intro ?_ ?_; (focus (first | exact id | exact rfl | exact trivial | (intro hg; first | exact hg | exact rfl | (simp; done) | (simp at hg ⊢; assumption)) | omega | decide | exact is2_c _ _ _ | exact is1_c _ _ | exact isS_c _ _ | exact isB_c _ _ | exact Nat.le_refl _ | assumption | exact mulLe (by decide) (by omega) | exact mulLe2 (by decide) (by omega) (by omega) | (intros; simp only [BL] at *; omega) | (intros; (try simp only [BL] at *); (try simp only [DL] at *); omega) | (intros; simp only [BL] at *; rw [wr_id (by omega) (by omega)]; omega) | (intro h1 h2; exact Bool.and_eq_true_iff.2 ⟨h1, h2⟩) | (intros; simp_all; done))); conv => whnf)
    | (refine Or.inr (And.intro rfl ?_); first | (refine congrArg intV ?_) | (refine congrArg boolV ?_) | (refine tupII ?_ ?_) | (refine tupIII ?_ ?_ ?_) | (refine tupU ?_ ?_ ?_ ?_ ?_) | exact rfl))
  refine sem_loop tab_ok gamR0_ok mixed (by kernel_rfl) (O := lex) (fun i : Nat => ⟨[(8, intV i), (7, intV n), (0, .c (.sl 3 n (cRu s m p q g))), (1, .fn 79 [])], []⟩) (fun i => i ≤ n ∧ ∀ k, k < i → bG g k = false) (fun i => n - i) ⟨0, [], ⟨Nat.zero_le _, fun k hk => absurd hk (Nat.not_lt_zero _)⟩, ?_⟩ fun i hi => ?_
  · refine Sub.of ?_ ?_ ?_
    repeat' (first | (refine And.intro ?_ ?_) | exact trivial | exact fun _ _ _ => hsc _ _ | (exact congrArg intV (by first | with_reducible rfl | with_reducible assumption)) | exact (rfl : AV.idsLt _ _ = true) | exact (rfl : _ = AV.ren _ (.own _)) | exact (rfl : _ = AV.ren _ (.fn _ _)) | exact (rfl : _ = AV.ren _ (.gh _)) | (exact congrArg intV (by assumption)) | (refine congrArg intV ((wr_id (by omega) (by omega)).trans (by omega))) | exact rfl | (simp only [Int.toNat_natCast, Int.toNat_zero, Nat.sub_zero, Nat.zero_add]; first | exact rfl | done) | exact all0 | exact fun h => Bool.noConfusion h | exact fun _ _ _ _ => rfl | omega)
  conv => whnf
  repeat' (first
    | (refine NilG.mk fun bn hbn => ?_; conv => whnf)
    | (refine Both.mk ?_ ?_ <;> conv => whnf)
    | exact trivial
    | (refine Br.mk (fun hb => ?_) (fun hb => ?_) <;> (first | (exfalso; revert hb; decide) | ((try simp only [BL] at hb) <;> (try simp only [DL] at hb) <;> conv => whnf)))
    | (refine And.intro ?_ ?_; (focus (first | exact id | exact rfl | exact trivial | (intro hg; first | exact hg | exact rfl | (simp; done) | (simp at hg ⊢; assumption)) | omega | decide | exact is2_c _ _ _ | exact is1_c _ _ | exact isS_c _ _ | exact isB_c _ _ | exact Nat.le_refl _ | assumption | exact mulLe (by decide) (by omega) | exact mulLe2 (by decide) (by omega) (by omega) | (intros; simp only [BL] at *; omega) | (intros; (try simp only [BL] at *); (try simp only [DL] at *); omega) | (intros; simp only [BL] at *; rw [wr_id (by omega) (by omega)]; omega) | (intro h1 h2; exact Bool.and_eq_true_iff.2 ⟨h1, h2⟩) | (intros; simp_all; done))); conv => whnf)
    | (refine Or.inr (And.intro rfl ?_); first | (refine congrArg intV ?_) | (refine congrArg boolV ?_) | (refine tupII ?_ ?_) | (refine tupIII ?_ ?_ ?_) | (refine tupU ?_ ?_ ?_ ?_ ?_) | exact rfl))
  · refine CallG.mk (Fn.mono (f79 _ _ _ _ _) ?_)
    rintro obs r ⟨rfl, rfl⟩
    conv => whnf
    repeat' (first
      | (refine NilG.mk fun bn hbn => ?_; conv => whnf)
      | (refine Both.mk ?_ ?_ <;> conv => whnf)
      | exact trivial
      | (refine Br.mk (fun hb => ?_) (fun hb => ?_) <;> (first | (exfalso; revert hb; decide) | ((try simp only [BL] at hb) <;> (try simp only [DL] at hb) <;> conv => whnf)))
      | (refine And.intro ?_ ?_; (focus (first | exact id | exact rfl | exact trivial | (intro hg; first | exact hg | exact rfl | (simp; done) | (simp at hg ⊢; assumption)) | omega | decide | exact is2_c _ _ _ | exact is1_c _ _ | exact isS_c _ _ | exact isB_c _ _ | exact Nat.le_refl _ | assumption | exact mulLe (by decide) (by omega) | exact mulLe2 (by decide) (by omega) (by omega) | (intros; simp only [BL] at *; omega) | (intros; (try simp only [BL] at *); (try simp only [DL] at *); omega) | (intros; simp only [BL] at *; rw [wr_id (by omega) (by omega)]; omega) | (intro h1 h2; exact Bool.and_eq_true_iff.2 ⟨h1, h2⟩) | (intros; simp_all; done))); conv => whnf)
      | (refine Or.inr (And.intro rfl ?_); first | (refine congrArg intV ?_) | (refine congrArg boolV ?_) | (refine tupII ?_ ?_) | (refine tupIII ?_ ?_ ?_) | (refine tupU ?_ ?_ ?_ ?_ ?_) | exact rfl))
    · have h1 : bG g i = true := by simp only [bG, Bool.or_eq_true, decide_eq_true_eq]; exact hb
      exact (fidx_at hi.2 h1 (by omega)).symm
    · have h1 : bG g i = false := by simp only [bG, Bool.or_eq_false_iff, decide_eq_false_iff_not]; exact hb
      refine ⟨i + 1, [], ⟨by omega, fun k hk => by rcases Nat.lt_succ_iff_lt_or_eq.1 hk with h | rfl <;> first | exact hi.2 k h | exact h1⟩, by omega, ?_⟩
      refine Sub.of ?_ ?_ ?_
      repeat' (first | (refine And.intro ?_ ?_) | exact trivial | exact fun _ _ _ => hsc _ _ | (exact congrArg intV (by first | with_reducible rfl | with_reducible assumption)) | exact (rfl : AV.idsLt _ _ = true) | exact (rfl : _ = AV.ren _ (.own _)) | exact (rfl : _ = AV.ren _ (.fn _ _)) | exact (rfl : _ = AV.ren _ (.gh _)) | (exact congrArg intV (by assumption)) | (refine congrArg intV ((wr_id (by omega) (by omega)).trans (by omega))) | exact rfl | (simp only [Int.toNat_natCast, Int.toNat_zero, Nat.sub_zero, Nat.zero_add]; first | exact rfl | done) | exact all0 | exact fun h => Bool.noConfusion h | exact fun _ _ _ _ => rfl | omega)
  · obtain rfl : i = n := by omega
    exact (fidx_none hi.2).symm

theorem contRu (s : Nat → ByteArray) (m : Nat → Nat) (p q : Nat → Nat → Int) (g : Nat → Int) (n : Nat) (hn : n ≤ maxLen) : Fn1 Try.prog 78 [.c (.sl 3 n (cRu s m p q g)), .fn 79 []] (boolV (decide (fidx (bG g) n ≥ 0))) := by
  refine fn_of_wpx (O := lex) tab_ok gamR0_ok mixed Try.func78 (by kernel_rfl) rfl rfl rfl (by simp [Try.ntmps78]) (by kernel_rfl) ?_
  conv => whnf
  repeat' (first
    | (refine NilG.mk fun bn hbn => ?_; conv => whnf)
    | (refine Both.mk ?_ ?_ <;> conv => whnf)
    | exact trivial
    | (refine Br.mk (fun hb => ?_) (fun hb => ?_) <;> (first | (exfalso; revert hb; decide) | ((try simp only [BL] at hb) <;> (try simp only [DL] at hb) <;> conv => whnf)))
    | (refine And.intro ?_ ?_; (focus (first | exact id | exact rfl | exact trivial | (intro hg; first | exact hg | exact rfl | (simp; done) | (simp at hg ⊢; assumption)) | omega | decide | exact is2_c _ _ _ | exact is1_c _ _ | exact isS_c _ _ | exact isB_c _ _ | exact Nat.le_refl _ | assumption | exact mulLe (by decide) (by omega) | exact mulLe2 (by decide) (by omega) (by omega) | (intros; simp only [BL] at *; omega) | (intros; (try simp only [BL] at *); (try simp only [DL] at *); omega) | (intros; simp only [BL] at *; rw [wr_id (by omega) (by omega)]; omega) | (intro h1 h2; exact Bool.and_eq_true_iff.2 ⟨h1, h2⟩) | (intros; simp_all; done))); conv => whnf)
    | (refine Or.inr (And.intro rfl ?_); first | (refine congrArg intV ?_) | (refine congrArg boolV ?_) | (refine tupII ?_ ?_) | (refine tupIII ?_ ?_ ?_) | (refine tupU ?_ ?_ ?_ ?_ ?_) | exact rfl))
  refine CallG.mk (Fn.mono (idxRu s m p q g n hn) ?_)
  rintro obs r ⟨rfl, rfl⟩
  conv => whnf
  repeat' (first
    | (refine NilG.mk fun bn hbn => ?_; conv => whnf)
    | (refine Both.mk ?_ ?_ <;> conv => whnf)
    | exact trivial
    | (refine Br.mk (fun hb => ?_) (fun hb => ?_) <;> (first | (exfalso; revert hb; decide) | ((try simp only [BL] at hb) <;> (try simp only [DL] at hb) <;> conv => whnf)))
    | (refine And.intro ?_ ?_; (focus (first | exact id | exact rfl | exact trivial | (intro hg; first | exact hg | exact rfl | (simp; done) | (simp at hg ⊢; assumption)) | omega | decide | exact is2_c _ _ _ | exact is1_c _ _ | exact isS_c _ _ | exact isB_c _ _ | exact Nat.le_refl _ | assumption | exact mulLe (by decide) (by omega) | exact mulLe2 (by decide) (by omega) (by omega) | (intros; simp only [BL] at *; omega) | (intros; (try simp only [BL] at *); (try simp only [DL] at *); omega) | (intros; simp only [BL] at *; rw [wr_id (by omega) (by omega)]; omega) | (intro h1 h2; exact Bool.and_eq_true_iff.2 ⟨h1, h2⟩) | (intros; simp_all; done))); conv => whnf)
    | (refine Or.inr (And.intro rfl ?_); first | (refine congrArg intV ?_) | (refine congrArg boolV ?_) | (refine tupII ?_ ?_) | (refine tupIII ?_ ?_ ?_) | (refine tupU ?_ ?_ ?_ ?_ ?_) | exact rfl))
  · rfl

def gamR1 : Gam := fun f => match f with
  | 73 => some (sOl fun n s m p q => intV (offsE n s m p q))
  | 25 => some (sOl fun n s m p q => intV (offsE n s m p q))
  | 22 => some (s3 inB)
  | _ => none
theorem gamR1_ok : GOk Try.prog gamR1 := fun f g h => by
  unfold gamR1 at h
  split at h
  · injection h with h; subst h; exact sOl_ok fun s m p q n h1 h2 => checkAll s m p q n h1 h2
  · injection h with h; subst h; exact sOl_ok fun s m p q n h1 h2 => offsError s m p q n h1 h2
  · injection h with h; subst h; exact s3_ok in3
  · cases h

theorem resCheck (s : Nat → ByteArray) (m : Nat → Nat) (p q : Nat → Nat → Int) (g : Nat → Int) (n : Nat) (hB : n * 40 ≤ 140737488355328) (hk : ∀ k, k < n → (s k).size ≤ maxLen ∧ m k ≤ maxLen) : Fn1 Try.prog 32 [.c (.sl 3 n (cRu s m p q g))] (intV (unE n s m p q g)) := by
  refine fn_of_wpx (O := lex) tab_ok gamR1_ok mixed Try.func32 (by kernel_rfl) rfl rfl rfl (by simp [Try.ntmps32]) (by kernel_rfl) ?_
  have hn' : n ≤ maxLen := by unfold maxLen; omega
  have hn2 : n ≤ 9223372036854775807 := hn'
  conv => whnf
  repeat' (first
    | (refine NilG.mk fun bn hbn => ?_; conv => whnf)
    | (refine Both.mk ?_ ?_ <;> conv => whnf)
    | exact trivial
    | (refine Br.mk (fun hb => ?_) (fun hb => ?_) <;> (first | (exfalso; revert hb; decide) | ((try simp only [BL] at hb) <;> (try simp only [DL] at hb) <;> conv => whnf)))
    | (refine And.intro ?_ ?_; (focus (first | exact id | exact rfl | exact trivial | (intro hg; first | exact hg | exact rfl | (simp; done) | (simp at hg ⊢; assumption)) | omega | decide | exact is2_c _ _ _ | exact is1_c _ _ | exact isS_c _ _ | exact isB_c _ _ | exact Nat.le_refl _ | assumption | exact mulLe (by decide) (by omega) | exact mulLe2 (by decide) (by omega) (by omega) | (intros; simp only [BL] at *; omega) | (intros; (try simp only [BL] at *); (try simp only [DL] at *); omega) | (intros; simp only [BL] at *; rw [wr_id (by omega) (by omega)]; omega) | (intro h1 h2; exact Bool.and_eq_true_iff.2 ⟨h1, h2⟩) | (intros; simp_all; done))); conv => whnf)
    | (refine Or.inr (And.intro rfl ?_); first | (refine congrArg intV ?_) | (refine congrArg boolV ?_) | (refine tupII ?_ ?_) | (refine tupIII ?_ ?_ ?_) | (refine tupU ?_ ?_ ?_ ?_ ?_) | exact rfl))
  refine LoopG.nil 3 43 2 rfl ?_
  refine sem_loop tab_ok gamR1_ok mixed (by kernel_rfl) (O := lex) (fun i : Nat => ⟨[(9, intV i), (8, intV n), (7, .c (.sl 3 n (cRu s m p q g))), (0, .c (.sl 3 n (cRu s m p q g))), (3, .own 0)], [.row 43 2 i false (cO s m p q)]⟩) (fun i => i ≤ n) (fun i => n - i) ⟨0, [?_], Nat.zero_le _, ?_⟩ fun i hi => ?_
  rotate_left 1
  · refine Sub.of ?_ ?_ ?_
    repeat' (first | (refine And.intro ?_ ?_) | exact trivial | exact fun _ _ _ => hsc _ _ | (exact congrArg intV (by first | with_reducible rfl | with_reducible assumption)) | exact (rfl : AV.idsLt _ _ = true) | exact (rfl : _ = AV.ren _ (.own _)) | exact (rfl : _ = AV.ren _ (.fn _ _)) | exact (rfl : _ = AV.ren _ (.gh _)) | (exact congrArg intV (by assumption)) | (refine congrArg intV ((wr_id (by omega) (by omega)).trans (by omega))) | exact rfl | (simp only [Int.toNat_natCast, Int.toNat_zero, Nat.sub_zero, Nat.zero_add]; first | exact rfl | done) | exact all0 | exact fun h => Bool.noConfusion h | exact fun _ _ _ _ => rfl | omega)
  conv => whnf
  repeat' (first
    | (refine NilG.mk fun bn hbn => ?_; conv => whnf)
    | (refine Both.mk ?_ ?_ <;> conv => whnf)
    | exact trivial
    | (refine Br.mk (fun hb => ?_) (fun hb => ?_) <;> (first | (exfalso; revert hb; decide) | ((try simp only [BL] at hb) <;> (try simp only [DL] at hb) <;> conv => whnf)))
    | (refine And.intro ?_ ?_; (focus (first | exact id | exact rfl | exact trivial | (intro hg; first | exact hg | exact rfl | (simp; done) | (simp at hg ⊢; assumption)) | omega | decide | exact is2_c _ _ _ | exact is1_c _ _ | exact isS_c _ _ | exact isB_c _ _ | exact Nat.le_refl _ | assumption | exact mulLe (by decide) (by omega) | exact mulLe2 (by decide) (by omega) (by omega) | (intros; simp only [BL] at *; omega) | (intros; (try simp only [BL] at *); (try simp only [DL] at *); omega) | (intros; simp only [BL] at *; rw [wr_id (by omega) (by omega)]; omega) | (intro h1 h2; exact Bool.and_eq_true_iff.2 ⟨h1, h2⟩) | first | exact isO_c (by omega) (fun k hk' => hk k (by omega)) | (refine Nat.le_trans (Nat.mul_le_mul_right 40 (show i + 1 ≤ n by omega)) hB) | (intros; simp_all; done))); conv => whnf)
    | (refine Or.inr (And.intro rfl ?_); first | (refine congrArg intV ?_) | (refine congrArg boolV ?_) | (refine tupII ?_ ?_) | (refine tupIII ?_ ?_ ?_) | (refine tupU ?_ ?_ ?_ ?_ ?_) | exact rfl))
  · refine ⟨i + 1, [?_], by omega, by omega, ?_⟩
    rotate_left 1
    refine Sub.of ?_ ?_ ?_
    repeat' (first | (refine And.intro ?_ ?_) | exact trivial | exact fun _ _ _ => hsc _ _ | (exact congrArg intV (by first | with_reducible rfl | with_reducible assumption)) | exact (rfl : AV.idsLt _ _ = true) | exact (rfl : _ = AV.ren _ (.own _)) | exact (rfl : _ = AV.ren _ (.fn _ _)) | exact (rfl : _ = AV.ren _ (.gh _)) | (exact congrArg intV (by assumption)) | (refine congrArg intV ((wr_id (by omega) (by omega)).trans (by omega))) | exact rfl | (simp only [Int.toNat_natCast, Int.toNat_zero, Nat.sub_zero, Nat.zero_add]; first | exact rfl | done) | exact all0 | exact fun h => Bool.noConfusion h | exact fun _ _ _ _ => rfl | omega)
    intro aq haq bq hbq
    by_cases hltq : aq < i
    · exact if_pos hltq
    · obtain rfl : aq = i := by omega
      refine (if_neg hltq).trans ?_
      rw [Nat.sub_self]
      revert bq hbq
      refine all2 rfl rfl
  · have h0 : ¬ offsE i s m p q = 0 := hb
    obtain rfl : i = n := by omega
    exact (if_pos h0).symm
  · have h0 : offsE i s m p q = 0 := hb
    clear hb
    obtain rfl : i = n := by omega
    have hE : unE i s m p q g = if fidx (bG g) i ≥ 0 then 4 else 0 := if_neg (fun h => h h0)
    refine CallG.mk (Fn.mono (contRu s m p q g i hn') ?_)
    rintro obs r ⟨rfl, rfl⟩
    conv => whnf
    repeat' (first
      | (refine NilG.mk fun bn hbn => ?_; conv => whnf)
      | (refine Both.mk ?_ ?_ <;> conv => whnf)
      | exact trivial
      | (refine Br.mk (fun hb => ?_) (fun hb => ?_) <;> (first | (exfalso; revert hb; decide) | ((try simp only [BL] at hb) <;> (try simp only [DL] at hb) <;> conv => whnf)))
      | (refine And.intro ?_ ?_; (focus (first | exact id | exact rfl | exact trivial | (intro hg; first | exact hg | exact rfl | (simp; done) | (simp at hg ⊢; assumption)) | omega | decide | exact is2_c _ _ _ | exact is1_c _ _ | exact isS_c _ _ | exact isB_c _ _ | exact Nat.le_refl _ | assumption | exact mulLe (by decide) (by omega) | exact mulLe2 (by decide) (by omega) (by omega) | (intros; simp only [BL] at *; omega) | (intros; (try simp only [BL] at *); (try simp only [DL] at *); omega) | (intros; simp only [BL] at *; rw [wr_id (by omega) (by omega)]; omega) | (intro h1 h2; exact Bool.and_eq_true_iff.2 ⟨h1, h2⟩) | (intros; simp_all; done))); conv => whnf)
      | (refine Or.inr (And.intro rfl ?_); first | (refine congrArg intV ?_) | (refine congrArg boolV ?_) | (refine tupII ?_ ?_) | (refine tupIII ?_ ?_ ?_) | (refine tupU ?_ ?_ ?_ ?_ ?_) | exact rfl))
    · rw [hE, if_pos (by omega)]
    · rw [hE, if_neg (by omega)]

theorem unitsErr (s : Nat → ByteArray) (m : Nat → Nat) (p q : Nat → Nat → Int) (g : Nat → Int) (n : Nat) (hB : n * 40 ≤ 140737488355328) (hk : ∀ k, k < n → (s k).size ≤ maxLen ∧ m k ≤ maxLen) : Fn1 Try.prog 31 [.c (.sl 3 n (cRu s m p q g))] (intV (unE n s m p q g)) := by
  refine fn_of_wpx (O := lex) tab_ok gamR1_ok mixed Try.func31 (by kernel_rfl) rfl rfl rfl (by simp [Try.ntmps31]) (by kernel_rfl) ?_
  have hn' : n ≤ maxLen := by unfold maxLen; omega
  have hn2 : n ≤ 9223372036854775807 := hn'
  conv => whnf
  repeat' (first
    | (refine NilG.mk fun bn hbn => ?_; conv => whnf)
    | (refine Both.mk ?_ ?_ <;> conv => whnf)
    | exact trivial
    | (refine Br.mk (fun hb => ?_) (fun hb => ?_) <;> (first | (exfalso; revert hb; decide) | ((try simp only [BL] at hb) <;> (try simp only [DL] at hb) <;> conv => whnf)))
    | (refine And.intro ?_ ?_; (focus (first | exact id | exact rfl | exact trivial | (intro hg; first | exact hg | exact rfl | (simp; done) | (simp at hg ⊢; assumption)) | omega | decide | exact is2_c _ _ _ | exact is1_c _ _ | exact isS_c _ _ | exact isB_c _ _ | exact Nat.le_refl _ | assumption | exact mulLe (by decide) (by omega) | exact mulLe2 (by decide) (by omega) (by omega) | (intros; simp only [BL] at *; omega) | (intros; (try simp only [BL] at *); (try simp only [DL] at *); omega) | (intros; simp only [BL] at *; rw [wr_id (by omega) (by omega)]; omega) | (intro h1 h2; exact Bool.and_eq_true_iff.2 ⟨h1, h2⟩) | (intros; simp_all; done))); conv => whnf)
    | (refine Or.inr (And.intro rfl ?_); first | (refine congrArg intV ?_) | (refine congrArg boolV ?_) | (refine tupII ?_ ?_) | (refine tupIII ?_ ?_ ?_) | (refine tupU ?_ ?_ ?_ ?_ ?_) | exact rfl))
  refine LoopG.nil 3 43 2 rfl ?_
  refine sem_loop tab_ok gamR1_ok mixed (by kernel_rfl) (O := lex) (fun i : Nat => ⟨[(11, intV i), (10, intV n), (9, .c (.sl 3 n (cRu s m p q g))), (0, .c (.sl 3 n (cRu s m p q g))), (3, .own 0)], [.row 43 2 i false (cO s m p q)]⟩) (fun i => i ≤ n) (fun i => n - i) ⟨0, [?_], Nat.zero_le _, ?_⟩ fun i hi => ?_
  rotate_left 1
  · refine Sub.of ?_ ?_ ?_
    repeat' (first | (refine And.intro ?_ ?_) | exact trivial | exact fun _ _ _ => hsc _ _ | (exact congrArg intV (by first | with_reducible rfl | with_reducible assumption)) | exact (rfl : AV.idsLt _ _ = true) | exact (rfl : _ = AV.ren _ (.own _)) | exact (rfl : _ = AV.ren _ (.fn _ _)) | exact (rfl : _ = AV.ren _ (.gh _)) | (exact congrArg intV (by assumption)) | (refine congrArg intV ((wr_id (by omega) (by omega)).trans (by omega))) | exact rfl | (simp only [Int.toNat_natCast, Int.toNat_zero, Nat.sub_zero, Nat.zero_add]; first | exact rfl | done) | exact all0 | exact fun h => Bool.noConfusion h | exact fun _ _ _ _ => rfl | omega)
  conv => whnf
  repeat' (first
    | (refine NilG.mk fun bn hbn => ?_; conv => whnf)
    | (refine Both.mk ?_ ?_ <;> conv => whnf)
    | exact trivial
    | (refine Br.mk (fun hb => ?_) (fun hb => ?_) <;> (first | (exfalso; revert hb; decide) | ((try simp only [BL] at hb) <;> (try simp only [DL] at hb) <;> conv => whnf)))
    | (refine And.intro ?_ ?_; (focus (first | exact id | exact rfl | exact trivial | (intro hg; first | exact hg | exact rfl | (simp; done) | (simp at hg ⊢; assumption)) | omega | decide | exact is2_c _ _ _ | exact is1_c _ _ | exact isS_c _ _ | exact isB_c _ _ | exact Nat.le_refl _ | assumption | exact mulLe (by decide) (by omega) | exact mulLe2 (by decide) (by omega) (by omega) | (intros; simp only [BL] at *; omega) | (intros; (try simp only [BL] at *); (try simp only [DL] at *); omega) | (intros; simp only [BL] at *; rw [wr_id (by omega) (by omega)]; omega) | (intro h1 h2; exact Bool.and_eq_true_iff.2 ⟨h1, h2⟩) | first | exact isO_c (by omega) (fun k hk' => hk k (by omega)) | (refine Nat.le_trans (Nat.mul_le_mul_right 40 (show i + 1 ≤ n by omega)) hB) | (intros; simp_all; done))); conv => whnf)
    | (refine Or.inr (And.intro rfl ?_); first | (refine congrArg intV ?_) | (refine congrArg boolV ?_) | (refine tupII ?_ ?_) | (refine tupIII ?_ ?_ ?_) | (refine tupU ?_ ?_ ?_ ?_ ?_) | exact rfl))
  · refine ⟨i + 1, [?_], by omega, by omega, ?_⟩
    rotate_left 1
    refine Sub.of ?_ ?_ ?_
    repeat' (first | (refine And.intro ?_ ?_) | exact trivial | exact fun _ _ _ => hsc _ _ | (exact congrArg intV (by first | with_reducible rfl | with_reducible assumption)) | exact (rfl : AV.idsLt _ _ = true) | exact (rfl : _ = AV.ren _ (.own _)) | exact (rfl : _ = AV.ren _ (.fn _ _)) | exact (rfl : _ = AV.ren _ (.gh _)) | (exact congrArg intV (by assumption)) | (refine congrArg intV ((wr_id (by omega) (by omega)).trans (by omega))) | exact rfl | (simp only [Int.toNat_natCast, Int.toNat_zero, Nat.sub_zero, Nat.zero_add]; first | exact rfl | done) | exact all0 | exact fun h => Bool.noConfusion h | exact fun _ _ _ _ => rfl | omega)
    intro aq haq bq hbq
    by_cases hltq : aq < i
    · exact if_pos hltq
    · obtain rfl : aq = i := by omega
      refine (if_neg hltq).trans ?_
      rw [Nat.sub_self]
      revert bq hbq
      refine all2 rfl rfl
  · have h0 : ¬ offsE i s m p q = 0 := hb
    obtain rfl : i = n := by omega
    exact (if_pos h0).symm
  have h0 : offsE i s m p q = 0 := hb
  clear hb
  obtain rfl : i = n := by omega
  have hE : unE i s m p q g = if fidx (bG g) i ≥ 0 then 4 else 0 := if_neg (fun h => h h0)
  rw [hE]
  refine sem_loop tab_ok gamR1_ok mixed (by kernel_rfl) (O := lex) (fun j : Nat => ⟨[(28, intV j), (27, intV i), (26, .c (.sl 3 i (cRu s m p q g)))], []⟩) (fun j => j ≤ i ∧ ∀ k, k < j → bG g k = false) (fun j => i - j) ⟨0, [], ⟨Nat.zero_le _, fun k hk => absurd hk (Nat.not_lt_zero _)⟩, ?_⟩ fun j hj => ?_
  · refine Sub.of ?_ ?_ ?_
    repeat' (first | (refine And.intro ?_ ?_) | exact trivial | exact fun _ _ _ => hsc _ _ | (exact congrArg intV (by first | with_reducible rfl | with_reducible assumption)) | exact (rfl : AV.idsLt _ _ = true) | exact (rfl : _ = AV.ren _ (.own _)) | exact (rfl : _ = AV.ren _ (.fn _ _)) | exact (rfl : _ = AV.ren _ (.gh _)) | (exact congrArg intV (by assumption)) | (refine congrArg intV ((wr_id (by omega) (by omega)).trans (by omega))) | exact rfl | (simp only [Int.toNat_natCast, Int.toNat_zero, Nat.sub_zero, Nat.zero_add]; first | exact rfl | done) | exact all0 | exact fun h => Bool.noConfusion h | exact fun _ _ _ _ => rfl | omega)
  conv => whnf
  repeat' (first
    | (refine NilG.mk fun bn hbn => ?_; conv => whnf)
    | (refine Both.mk ?_ ?_ <;> conv => whnf)
    | exact trivial
    | (refine Br.mk (fun hb => ?_) (fun hb => ?_) <;> (first | (exfalso; revert hb; decide) | ((try simp only [BL] at hb) <;> (try simp only [DL] at hb) <;> conv => whnf)))
    | (refine And.intro ?_ ?_; (focus (first | exact id | exact rfl | exact trivial | (intro hg; first | exact hg | exact rfl | (simp; done) | (simp at hg ⊢; assumption)) | omega | decide | exact is2_c _ _ _ | exact is1_c _ _ | exact isS_c _ _ | exact isB_c _ _ | exact Nat.le_refl _ | assumption | exact mulLe (by decide) (by omega) | exact mulLe2 (by decide) (by omega) (by omega) | (intros; simp only [BL] at *; omega) | (intros; (try simp only [BL] at *); (try simp only [DL] at *); omega) | (intros; simp only [BL] at *; rw [wr_id (by omega) (by omega)]; omega) | (intro h1 h2; exact Bool.and_eq_true_iff.2 ⟨h1, h2⟩) | (intros; simp_all; done))); conv => whnf)
    | (refine Or.inr (And.intro rfl ?_); first | (refine congrArg intV ?_) | (refine congrArg boolV ?_) | (refine tupII ?_ ?_) | (refine tupIII ?_ ?_ ?_) | (refine tupU ?_ ?_ ?_ ?_ ?_) | exact rfl))
  · have h1 : bG g j = true := by simp only [bG, Bool.or_eq_true, decide_eq_true_eq]; omega
    rw [fidx_at hj.2 h1 (by omega), if_pos (by omega)]
  · have h1 : bG g j = false := by simp only [bG, Bool.or_eq_false_iff, decide_eq_false_iff_not]; omega
    refine ⟨j + 1, [], ⟨by omega, fun k hk => by rcases Nat.lt_succ_iff_lt_or_eq.1 hk with h | rfl <;> first | exact hj.2 k h | exact h1⟩, by omega, ?_⟩
    refine Sub.of ?_ ?_ ?_
    repeat' (first | (refine And.intro ?_ ?_) | exact trivial | exact fun _ _ _ => hsc _ _ | (exact congrArg intV (by first | with_reducible rfl | with_reducible assumption)) | exact (rfl : AV.idsLt _ _ = true) | exact (rfl : _ = AV.ren _ (.own _)) | exact (rfl : _ = AV.ren _ (.fn _ _)) | exact (rfl : _ = AV.ren _ (.gh _)) | (exact congrArg intV (by assumption)) | (refine congrArg intV ((wr_id (by omega) (by omega)).trans (by omega))) | exact rfl | (simp only [Int.toNat_natCast, Int.toNat_zero, Nat.sub_zero, Nat.zero_add]; first | exact rfl | done) | exact all0 | exact fun h => Bool.noConfusion h | exact fun _ _ _ _ => rfl | omega)
  · obtain rfl : j = i := by omega
    rw [fidx_none hj.2]
    rfl

/-- a list of units; with a list of powers -/
def sRul (gg : Nat → (Nat → ByteArray) → (Nat → Nat) → (Nat → Nat → Int) → (Nat → Nat → Int) → (Nat → Int) → AV) : List AV → Sd × AV
  | [.c (.sl 3 n f)] => (.p (isRu n f), gg n (dS f) (oM f) (oP f) (oQ f) (dI2 f))
  | _ => (.p False, .top)
theorem sRul_ok {f : FuncId} {gg} (h : ∀ s m p q g n, n * 40 ≤ 140737488355328 → (∀ k, k < n → (s k).size ≤ maxLen ∧ m k ≤ maxLen) → Fn1 Try.prog f [.c (.sl 3 n (cRu s m p q g))] (gg n s m p q g)) : ∀ args, (sRul gg args).1.ok → (sRul gg args).2.exact.isSome = true → Fn1 Try.prog f args (sRul gg args).2 := fun args hs _ => by
  unfold sRul at hs ⊢
  split at hs
  · exact (h _ _ _ _ _ _ hs.2.1 hs.2.2).le (Le.cons (Le1.l (LLe.sl hs.1)) Le.nil)
  · exact hs.elim
def sRuls (gg : Nat → (Nat → ByteArray) → (Nat → Nat) → (Nat → Nat → Int) → (Nat → Nat → Int) → (Nat → Int) → Nat → (Nat → Int) → AV) : List AV → Sd × AV
  | [.c (.sl 3 n f), .c (.sl 1 k x)] => (.p (isRu n f ∧ is1 k x ∧ k ≤ maxLen), gg n (dS f) (oM f) (oP f) (oQ f) (dI2 f) k (d0 x))
  | _ => (.p False, .top)
theorem sRuls_ok {f : FuncId} {gg} (h : ∀ s m p q g n k x, n * 40 ≤ 140737488355328 → (∀ k, k < n → (s k).size ≤ maxLen ∧ m k ≤ maxLen) → k ≤ maxLen → Fn1 Try.prog f [.c (.sl 3 n (cRu s m p q g)), .c (.sl 1 k (c1 x))] (gg n s m p q g k x)) : ∀ args, (sRuls gg args).1.ok → (sRuls gg args).2.exact.isSome = true → Fn1 Try.prog f args (sRuls gg args).2 := fun args hs _ => by
  unfold sRuls at hs ⊢
  split at hs
  · exact (h _ _ _ _ _ _ _ _ hs.1.2.1 hs.1.2.2 hs.2.2).le (Le.cons (Le1.l (LLe.sl hs.1.1)) (Le.cons (Le1.sl hs.2.1) Le.nil))
  · exact hs.elim

def gamR2 : Gam := fun f => match f with
  | 32 => some (sRul fun n s m p q g => intV (unE n s m p q g))
  | 76 => some (sO (fun _ n p q => okOff n p q) fun _ n p _ => intV (S p n))
  | 77 => some (sRui (fun n p q x => okOff n p q ∧ 0 ≤ x ∧ x ≤ 1000000) fun n p g x => intV (min g (S p n - x)))
  | _ => none
theorem gamR2_ok : GOk Try.prog gamR2 := fun f g h => by
  unfold gamR2 at h
  split at h
  · injection h with h; subst h; exact sRul_ok fun s m p q g n h1 h2 => resCheck s m p q g n h1 h2
  · injection h with h; subst h; exact sO_ok offSum
  · injection h with h; subst h; exact sRui_ok resHeld
  · cases h

abbrev z0 : Nat → Int := fun _ => 0
abbrev posV (n : Nat) (s : Nat → ByteArray) (m : Nat → Nat) (p q : Nat → Nat → Int) (g : Nat → Int) : AV := .tup [intV (if unE n s m p q g = 0 then S (hK m p g z0) n else 0), intV (unE n s m p q g)]
abbrev helV (n : Nat) (s : Nat → ByteArray) (m : Nat → Nat) (p q : Nat → Nat → Int) (g : Nat → Int) (nx : Nat) (x : Nat → Int) : AV := .tup [intV (if heE n nx s m p q g x = 0 then S (hK m p g x) n else 0), intV (heE n nx s m p q g x)]

theorem resPossible (s : Nat → ByteArray) (m : Nat → Nat) (p q : Nat → Nat → Int) (g : Nat → Int) (n : Nat) (hB : n * 40 ≤ 140737488355328) (hk : ∀ k, k < n → (s k).size ≤ maxLen ∧ m k ≤ maxLen) : Fn1 Try.prog 29 [.c (.sl 3 n (cRu s m p q g))] (posV n s m p q g) := by
  refine fn_of_wpx (O := lex) tab_ok gamR2_ok mixed Try.func29 (by kernel_rfl) rfl rfl rfl (by simp [Try.ntmps29]) (by kernel_rfl) ?_
  conv => whnf
  repeat' (first
    | (refine NilG.mk fun bn hbn => ?_; conv => whnf)
    | (refine Both.mk ?_ ?_ <;> conv => whnf)
    | exact trivial
    | (refine Br.mk (fun hb => ?_) (fun hb => ?_) <;> (first | (exfalso; revert hb; decide) | ((try simp only [BL] at hb) <;> (try simp only [DL] at hb) <;> conv => whnf)))
    | (refine And.intro ?_ ?_; (focus (first | exact id | exact rfl | exact trivial | (intro hg; first | exact hg | exact rfl | (simp; done) | (simp at hg ⊢; assumption)) | omega | decide | exact is2_c _ _ _ | exact is1_c _ _ | exact isS_c _ _ | exact isB_c _ _ | exact Nat.le_refl _ | assumption | exact mulLe (by decide) (by omega) | exact mulLe2 (by decide) (by omega) (by omega) | (intros; simp only [BL] at *; omega) | (intros; (try simp only [BL] at *); (try simp only [DL] at *); omega) | (intros; simp only [BL] at *; rw [wr_id (by omega) (by omega)]; omega) | (intro h1 h2; exact Bool.and_eq_true_iff.2 ⟨h1, h2⟩) | exact isRu_c hB hk | (intros; simp_all; done))); conv => whnf)
    | (refine Or.inr (And.intro rfl ?_); first | (refine congrArg intV ?_) | (refine congrArg boolV ?_) | (refine tupII ?_ ?_) | (refine tupIII ?_ ?_ ?_) | (refine tupU ?_ ?_ ?_ ?_ ?_) | exact rfl))
  iterate 2
    · have h0 : ¬ unE n s m p q g = 0 := hb
      first
      | exact (if_neg h0).symm
      | rfl
  have h0 : unE n s m p q g = 0 := hb
  obtain ⟨hn10, hall⟩ := unE_zero h0
  clear hb
  refine sem_loop tab_ok gamR2_ok mixed (by kernel_rfl) (O := lex) (fun i : Nat => ⟨[(15, intV i), (14, intV n), (13, .c (.sl 3 n (cRu s m p q g))), (5, intV (S (hK m p g z0) i))], []⟩) (fun i => i ≤ n) (fun i => n - i) ⟨0, [], Nat.zero_le _, ?_⟩ fun i hi => ?_
  · refine Sub.of ?_ ?_ ?_
    repeat' (first | (refine And.intro ?_ ?_) | exact trivial | exact fun _ _ _ => hsc _ _ | (exact congrArg intV (by first | with_reducible rfl | with_reducible assumption)) | exact (rfl : AV.idsLt _ _ = true) | exact (rfl : _ = AV.ren _ (.own _)) | exact (rfl : _ = AV.ren _ (.fn _ _)) | exact (rfl : _ = AV.ren _ (.gh _)) | (exact congrArg intV (by assumption)) | (refine congrArg intV ((wr_id (by omega) (by omega)).trans (by omega))) | exact rfl | (simp only [Int.toNat_natCast, Int.toNat_zero, Nat.sub_zero, Nat.zero_add]; first | exact rfl | done) | exact all0 | exact fun h => Bool.noConfusion h | exact fun _ _ _ _ => rfl | omega)
  have hs := hsum (x := z0) h0 hi (fun j hj => ⟨Int.le_refl _, (hall j (by omega)).2.1⟩)
  conv => whnf
  repeat' (first
    | (refine NilG.mk fun bn hbn => ?_; conv => whnf)
    | (refine Both.mk ?_ ?_ <;> conv => whnf)
    | exact trivial
    | (refine Br.mk (fun hb => ?_) (fun hb => ?_) <;> (first | (exfalso; revert hb; decide) | ((try simp only [BL] at hb) <;> (try simp only [DL] at hb) <;> conv => whnf)))
    | (refine And.intro ?_ ?_; (focus (first | exact id | exact rfl | exact trivial | (intro hg; first | exact hg | exact rfl | (simp; done) | (simp at hg ⊢; assumption)) | omega | decide | exact is2_c _ _ _ | exact is1_c _ _ | exact isS_c _ _ | exact isB_c _ _ | exact Nat.le_refl _ | assumption | exact mulLe (by decide) (by omega) | exact mulLe2 (by decide) (by omega) (by omega) | (intros; simp only [BL] at *; omega) | (intros; (try simp only [BL] at *); (try simp only [DL] at *); omega) | (intros; simp only [BL] at *; rw [wr_id (by omega) (by omega)]; omega) | (intro h1 h2; exact Bool.and_eq_true_iff.2 ⟨h1, h2⟩) | exact ⟨is2_c _ _ _, (hall i (by omega)).1, by omega, by omega⟩ | (intros; simp_all; done))); conv => whnf)
    | (refine Or.inr (And.intro rfl ?_); first | (refine congrArg intV ?_) | (refine congrArg boolV ?_) | (refine tupII ?_ ?_) | (refine tupIII ?_ ?_ ?_) | (refine tupU ?_ ?_ ?_ ?_ ?_) | exact rfl))
  · have hs' := hsum (x := z0) (i := i + 1) h0 (by omega) (fun j hj => ⟨Int.le_refl _, (hall j (by omega)).2.1⟩)
    have e1 : IntKind.i64.wrap (S (hK m p g z0) i + min (g i) (S (p i) (m i) - 0)) = S (hK m p g z0) (i + 1) := wr_id (by simp only [S, hK, z0] at hs' ⊢; omega) (by simp only [S, hK, z0] at hs' ⊢; omega)
    refine ⟨i + 1, [], by omega, by omega, ?_⟩
    refine Sub.of ?_ ?_ ?_
    repeat' (first | (refine And.intro ?_ ?_) | exact trivial | exact fun _ _ _ => hsc _ _ | (exact congrArg intV (by first | with_reducible rfl | with_reducible assumption)) | exact (rfl : AV.idsLt _ _ = true) | exact (rfl : _ = AV.ren _ (.own _)) | exact (rfl : _ = AV.ren _ (.fn _ _)) | exact (rfl : _ = AV.ren _ (.gh _)) | (exact congrArg intV (by assumption)) | (refine congrArg intV ((wr_id (by omega) (by omega)).trans (by omega))) | exact rfl | (simp only [Int.toNat_natCast, Int.toNat_zero, Nat.sub_zero, Nat.zero_add]; first | exact rfl | done) | exact all0 | exact fun h => Bool.noConfusion h | exact fun _ _ _ _ => rfl | omega)
  iterate 2
    · obtain rfl : i = n := by omega
      first
      | exact (if_pos h0).symm
      | exact h0.symm

theorem resHolds (s : Nat → ByteArray) (m : Nat → Nat) (p q : Nat → Nat → Int) (g : Nat → Int) (n nx : Nat) (x : Nat → Int) (hB : n * 40 ≤ 140737488355328) (hk : ∀ k, k < n → (s k).size ≤ maxLen ∧ m k ≤ maxLen) (hnx : nx ≤ maxLen) : Fn1 Try.prog 28 [.c (.sl 3 n (cRu s m p q g)), .c (.sl 1 nx (c1 x))] (helV n s m p q g nx x) := by
  refine fn_of_wpx (O := lex) tab_ok gamR2_ok mixed Try.func28 (by kernel_rfl) rfl rfl rfl (by simp [Try.ntmps28]) (by kernel_rfl) ?_
  have hnx' : nx ≤ 9223372036854775807 := hnx
  have hn' : n ≤ 9223372036854775807 := by omega
  conv => whnf
  repeat' (first
    | (refine NilG.mk fun bn hbn => ?_; conv => whnf)
    | (refine Both.mk ?_ ?_ <;> conv => whnf)
    | exact trivial
    | (refine Br.mk (fun hb => ?_) (fun hb => ?_) <;> (first | (exfalso; revert hb; decide) | ((try simp only [BL] at hb) <;> (try simp only [DL] at hb) <;> conv => whnf)))
    | (refine And.intro ?_ ?_; (focus (first | exact id | exact rfl | exact trivial | (intro hg; first | exact hg | exact rfl | (simp; done) | (simp at hg ⊢; assumption)) | omega | decide | exact is2_c _ _ _ | exact is1_c _ _ | exact isS_c _ _ | exact isB_c _ _ | exact Nat.le_refl _ | assumption | exact mulLe (by decide) (by omega) | exact mulLe2 (by decide) (by omega) (by omega) | (intros; simp only [BL] at *; omega) | (intros; (try simp only [BL] at *); (try simp only [DL] at *); omega) | (intros; simp only [BL] at *; rw [wr_id (by omega) (by omega)]; omega) | (intro h1 h2; exact Bool.and_eq_true_iff.2 ⟨h1, h2⟩) | exact isRu_c hB hk | (intros; simp_all; done))); conv => whnf)
    | (refine Or.inr (And.intro rfl ?_); first | (refine congrArg intV ?_) | (refine congrArg boolV ?_) | (refine tupII ?_ ?_) | (refine tupIII ?_ ?_ ?_) | (refine tupU ?_ ?_ ?_ ?_ ?_) | exact rfl))
  iterate 2
    · have h0 : ¬ unE n s m p q g = 0 := hb
      have hE : heE n nx s m p q g x = unE n s m p q g := if_pos h0
      first
      | (rw [hE, if_neg h0]; done)
      | exact hE.symm
  iterate 2
    · rename_i h1
      have h0 : unE n s m p q g = 0 := h1
      have hE : heE n nx s m p q g x = 3 := by unfold heE; rw [if_neg (fun h => h h0), if_pos (by omega)]
      first
      | (rw [hE]; rfl)
      | exact hE.symm
  rename_i h1
  have h0 : unE n s m p q g = 0 := h1
  obtain ⟨hn10, hall⟩ := unE_zero h0
  obtain rfl : nx = n := by omega
  have hE : heE nx nx s m p q g x = fst (pwE m p x) nx := by unfold heE; rw [if_neg (fun h => h h0), if_neg (fun h => h rfl)]
  clear hb h1
  refine sem_loop tab_ok gamR2_ok mixed (by kernel_rfl) (O := lex) (fun i : Nat => ⟨[(22, intV i), (21, intV nx), (20, .c (.sl 3 nx (cRu s m p q g))), (1, .c (.sl 1 nx (c1 x))), (7, intV (S (hK m p g x) i))], []⟩) (fun i => i ≤ nx ∧ fst (pwE m p x) i = 0) (fun i => nx - i) ⟨0, [], ⟨Nat.zero_le _, rfl⟩, ?_⟩ fun i hi => ?_
  · refine Sub.of ?_ ?_ ?_
    repeat' (first | (refine And.intro ?_ ?_) | exact trivial | exact fun _ _ _ => hsc _ _ | (exact congrArg intV (by first | with_reducible rfl | with_reducible assumption)) | exact (rfl : AV.idsLt _ _ = true) | exact (rfl : _ = AV.ren _ (.own _)) | exact (rfl : _ = AV.ren _ (.fn _ _)) | exact (rfl : _ = AV.ren _ (.gh _)) | (exact congrArg intV (by assumption)) | (refine congrArg intV ((wr_id (by omega) (by omega)).trans (by omega))) | exact rfl | (simp only [Int.toNat_natCast, Int.toNat_zero, Nat.sub_zero, Nat.zero_add]; first | exact rfl | done) | exact all0 | exact fun h => Bool.noConfusion h | exact fun _ _ _ _ => rfl | omega)
  have hs := hsum (x := x) h0 hi.1 (fun j hj => pwE_zero (fst_zero hi.2 j hj))
  have hS : i < nx → S (p i) (m i) ≤ 100000 := fun h => (hall i h).2.2.1
  conv => whnf
  repeat' (first
    | (refine NilG.mk fun bn hbn => ?_; conv => whnf)
    | (refine Both.mk ?_ ?_ <;> conv => whnf)
    | exact trivial
    | (refine Br.mk (fun hb => ?_) (fun hb => ?_) <;> (first | (exfalso; revert hb; decide) | ((try simp only [BL] at hb) <;> (try simp only [DL] at hb) <;> conv => whnf)))
    | (refine And.intro ?_ ?_; (focus (first | exact id | exact rfl | exact trivial | (intro hg; first | exact hg | exact rfl | (simp; done) | (simp at hg ⊢; assumption)) | omega | decide | exact is2_c _ _ _ | exact is1_c _ _ | exact isS_c _ _ | exact isB_c _ _ | exact Nat.le_refl _ | assumption | exact mulLe (by decide) (by omega) | exact mulLe2 (by decide) (by omega) (by omega) | (intros; simp only [BL] at *; omega) | (intros; (try simp only [BL] at *); (try simp only [DL] at *); omega) | (intros; simp only [BL] at *; rw [wr_id (by omega) (by omega)]; omega) | (intro h1 h2; exact Bool.and_eq_true_iff.2 ⟨h1, h2⟩) | first | exact fun _ => ⟨is2_c _ _ _, (hall i (by omega)).1⟩ | exact ⟨is2_c _ _ _, (hall i (by omega)).1, show 0 ≤ x i by omega, show x i ≤ 1000000 by omega⟩ | (intros; simp_all; done))); conv => whnf)
    | (refine Or.inr (And.intro rfl ?_); first | (refine congrArg intV ?_) | (refine congrArg boolV ?_) | (refine tupII ?_ ?_) | (refine tupIII ?_ ?_ ?_) | (refine tupU ?_ ?_ ?_ ?_ ?_) | exact rfl))
  iterate 2
    · have h1 : pwE m p x i = 4 := by unfold pwE; rw [if_pos (by omega)]
      have hE' : heE nx nx s m p q g x = 4 := by rw [hE, fst_at hi.2 (by rw [h1]; decide) (by omega), h1]
      first
      | (rw [hE']; rfl)
      | exact hE'.symm
  · have h1 : pwE m p x i = 0 := by unfold pwE; rw [if_neg (by omega)]
    have hs' := hsum (x := x) (i := i + 1) h0 (by omega) (fun j hj => pwE_zero (fst_zero (fst_next hi.2 h1) j hj))
    have e1 : IntKind.i64.wrap (S (hK m p g x) i + min (g i) (S (p i) (m i) - x i)) = S (hK m p g x) (i + 1) := wr_id (by simp only [S, hK] at hs' ⊢; omega) (by simp only [S, hK] at hs' ⊢; omega)
    refine ⟨i + 1, [], ⟨by omega, fst_next hi.2 h1⟩, by omega, ?_⟩
    refine Sub.of ?_ ?_ ?_
    repeat' (first | (refine And.intro ?_ ?_) | exact trivial | exact fun _ _ _ => hsc _ _ | (exact congrArg intV (by first | with_reducible rfl | with_reducible assumption)) | exact (rfl : AV.idsLt _ _ = true) | exact (rfl : _ = AV.ren _ (.own _)) | exact (rfl : _ = AV.ren _ (.fn _ _)) | exact (rfl : _ = AV.ren _ (.gh _)) | (exact congrArg intV (by assumption)) | (refine congrArg intV ((wr_id (by omega) (by omega)).trans (by omega))) | exact rfl | (simp only [Int.toNat_natCast, Int.toNat_zero, Nat.sub_zero, Nat.zero_add]; first | exact rfl | done) | exact all0 | exact fun h => Bool.noConfusion h | exact fun _ _ _ _ => rfl | omega)
  iterate 2
    · obtain rfl : i = nx := by omega
      have hE' : heE i i s m p q g x = 0 := hE.trans hi.2
      first
      | exact (if_pos hE').symm
      | exact hE'.symm

/-- what lacks when unit i fails; the greatest lack of the first k units, and its unit -/
def lkW (m : Nat → Nat) (p : Nat → Nat → Int) (g x : Nat → Int) (n i : Nat) : Int := x i - (S (hK m p g x) n - hK m p g x i)
def mxV (W : Nat → Int) : Nat → Int
  | 0 => 0
  | k + 1 => if W k > mxV W k then W k else mxV W k
def mxI (W : Nat → Int) : Nat → Int
  | 0 => -1
  | k + 1 => if W k > mxV W k then k else mxI W k

def gamR3 : Gam := fun f => match f with
  | 28 => some (sRuls fun n s m p q g k x => helV n s m p q g k x)
  | 77 => some (sRui (fun n p q x => okOff n p q ∧ 0 ≤ x ∧ x ≤ 1000000) fun n p g x => intV (min g (S p n - x)))
  | _ => none
theorem gamR3_ok : GOk Try.prog gamR3 := fun f g h => by
  unfold gamR3 at h
  split at h
  · injection h with h; subst h; exact sRuls_ok fun s m p q g n k x h1 h2 h3 => resHolds s m p q g n k x h1 h2 h3
  · injection h with h; subst h; exact sRui_ok resHeld
  · cases h

theorem heE_zero {n nx : Nat} {s : Nat → ByteArray} {m : Nat → Nat} {p q : Nat → Nat → Int} {g x : Nat → Int} (h : heE n nx s m p q g x = 0) : unE n s m p q g = 0 ∧ nx = n ∧ ∀ k, k < n → 0 ≤ x k ∧ x k ≤ S (p k) (m k) := by
  unfold heE at h
  split at h
  · rename_i h0; exact absurd h h0
  · rename_i h0
    split at h
    · cases h
    · rename_i h1
      exact ⟨by simpa using h0, by omega, fun k hk => pwE_zero (fst_zero h k hk)⟩

abbrev outV (n : Nat) (s : Nat → ByteArray) (m : Nat → Nat) (p q : Nat → Nat → Int) (g : Nat → Int) (nx : Nat) (x : Nat → Int) : AV :=
  .tup [intV (if heE n nx s m p q g x = 0 then mxV (lkW m p g x n) n else 0), intV (if heE n nx s m p q g x = 0 then mxI (lkW m p g x n) n else 0), intV (heE n nx s m p q g x)]

theorem resOutage (s : Nat → ByteArray) (m : Nat → Nat) (p q : Nat → Nat → Int) (g : Nat → Int) (n nx : Nat) (x : Nat → Int) (hB : n * 40 ≤ 140737488355328) (hk : ∀ k, k < n → (s k).size ≤ maxLen ∧ m k ≤ maxLen) (hnx : nx ≤ maxLen) : Fn1 Try.prog 30 [.c (.sl 3 n (cRu s m p q g)), .c (.sl 1 nx (c1 x))] (outV n s m p q g nx x) := by
  refine fn_of_wpx (O := lex) tab_ok gamR3_ok mixed Try.func30 (by kernel_rfl) rfl rfl rfl (by simp [Try.ntmps30]) (by kernel_rfl) ?_
  have hnx' : nx ≤ 9223372036854775807 := hnx
  have hn' : n ≤ 9223372036854775807 := by omega
  conv => whnf
  repeat' (first
    | (refine NilG.mk fun bn hbn => ?_; conv => whnf)
    | (refine Both.mk ?_ ?_ <;> conv => whnf)
    | exact trivial
    | (refine Br.mk (fun hb => ?_) (fun hb => ?_) <;> (first | (exfalso; revert hb; decide) | ((try simp only [BL] at hb) <;> (try simp only [DL] at hb) <;> conv => whnf)))
    | (refine And.intro ?_ ?_; (focus (first | exact id | exact rfl | exact trivial | (intro hg; first | exact hg | exact rfl | (simp; done) | (simp at hg ⊢; assumption)) | omega | decide | exact is2_c _ _ _ | exact is1_c _ _ | exact isS_c _ _ | exact isB_c _ _ | exact Nat.le_refl _ | assumption | exact mulLe (by decide) (by omega) | exact mulLe2 (by decide) (by omega) (by omega) | (intros; simp only [BL] at *; omega) | (intros; (try simp only [BL] at *); (try simp only [DL] at *); omega) | (intros; simp only [BL] at *; rw [wr_id (by omega) (by omega)]; omega) | (intro h1 h2; exact Bool.and_eq_true_iff.2 ⟨h1, h2⟩) | exact ⟨isRu_c hB hk, is1_c _ _, hnx⟩ | (intros; simp_all; done))); conv => whnf)
    | (refine Or.inr (And.intro rfl ?_); first | (refine congrArg intV ?_) | (refine congrArg boolV ?_) | (refine tupII ?_ ?_) | (refine tupIII ?_ ?_ ?_) | (refine tupU ?_ ?_ ?_ ?_ ?_) | exact rfl))
  iterate 3
    · have h0 : ¬ heE n nx s m p q g x = 0 := hb
      first
      | exact (if_neg h0).symm
      | rfl
  have h0 : heE n nx s m p q g x = 0 := hb
  obtain ⟨h1, rfl, hx⟩ := heE_zero h0
  obtain ⟨hn10, hall⟩ := unE_zero h1
  clear hb
  have e0 : (if heE nx nx s m p q g x = 0 then S (hK m p g x) nx else 0) = S (hK m p g x) nx := if_pos h0
  refine sem_loop tab_ok gamR3_ok mixed (by kernel_rfl) (O := lex) (fun i : Nat => ⟨[(25, intV i), (24, intV nx), (23, .c (.sl 3 nx (cRu s m p q g))), (1, .c (.sl 1 nx (c1 x))), (7, intV (S (hK m p g x) nx)), (9, intV (mxV (lkW m p g x nx) i)), (10, intV (mxI (lkW m p g x nx) i))], []⟩) (fun i => i ≤ nx) (fun i => nx - i) ⟨0, [], Nat.zero_le _, ?_⟩ fun i hi => ?_
  · refine Sub.of ?_ ?_ ?_
    repeat' (first | (refine And.intro ?_ ?_) | exact trivial | exact fun _ _ _ => hsc _ _ | (exact congrArg intV (by first | with_reducible rfl | with_reducible assumption)) | exact (rfl : AV.idsLt _ _ = true) | exact (rfl : _ = AV.ren _ (.own _)) | exact (rfl : _ = AV.ren _ (.fn _ _)) | exact (rfl : _ = AV.ren _ (.gh _)) | (exact congrArg intV (by assumption)) | (refine congrArg intV ((wr_id (by omega) (by omega)).trans (by omega))) | exact rfl | (simp only [Int.toNat_natCast, Int.toNat_zero, Nat.sub_zero, Nat.zero_add]; first | exact rfl | done) | exact all0 | exact fun h => Bool.noConfusion h | exact fun _ _ _ _ => rfl | omega)
  have hs := hsum (x := x) h1 (Nat.le_refl nx) hx
  have hxi := hx i
  have hS := hall i
  have hW : i < nx → IntKind.i64.wrap (x i - IntKind.i64.wrap (S (hK m p g x) nx - min (g i) (S (p i) (m i) - x i))) = lkW m p g x nx i := fun h => by
    have := hxi h
    have := hS h
    unfold lkW
    rw [wr_id (x := S (hK m p g x) nx - min (g i) (S (p i) (m i) - x i)) (by omega) (by omega)]
    exact wr_id (by omega) (by omega)
  conv => whnf
  repeat' (first
    | (refine NilG.mk fun bn hbn => ?_; conv => whnf)
    | (refine Both.mk ?_ ?_ <;> conv => whnf)
    | exact trivial
    | (refine Br.mk (fun hb => ?_) (fun hb => ?_) <;> (first | (exfalso; revert hb; decide) | ((try simp only [BL] at hb) <;> (try simp only [DL] at hb) <;> conv => whnf)))
    | (refine And.intro ?_ ?_; (focus (first | exact id | exact rfl | exact trivial | (intro hg; first | exact hg | exact rfl | (simp; done) | (simp at hg ⊢; assumption)) | omega | decide | exact is2_c _ _ _ | exact is1_c _ _ | exact isS_c _ _ | exact isB_c _ _ | exact Nat.le_refl _ | assumption | exact mulLe (by decide) (by omega) | exact mulLe2 (by decide) (by omega) (by omega) | (intros; simp only [BL] at *; omega) | (intros; (try simp only [BL] at *); (try simp only [DL] at *); omega) | (intros; simp only [BL] at *; rw [wr_id (by omega) (by omega)]; omega) | (intro h1 h2; exact Bool.and_eq_true_iff.2 ⟨h1, h2⟩) | exact ⟨is2_c _ _ _, (hS (by omega)).1, (hxi (by omega)).1, show x i ≤ 1000000 by have := hxi (by omega); have := hS (by omega); omega⟩ | (intros; simp_all; done))); conv => whnf)
    | (refine Or.inr (And.intro rfl ?_); first | (refine congrArg intV ?_) | (refine congrArg boolV ?_) | (refine tupII ?_ ?_) | (refine tupIII ?_ ?_ ?_) | (refine tupU ?_ ?_ ?_ ?_ ?_) | exact rfl))
  · have h2 : lkW m p g x nx i > mxV (lkW m p g x nx) i := by rw [← hW (by omega)]; exact hb
    have e1 : IntKind.i64.wrap (x i - IntKind.i64.wrap (S (hK m p g x) nx - min (g i) (S (p i) (m i) - x i))) = mxV (lkW m p g x nx) (i + 1) := (hW (by omega)).trans (if_pos h2).symm
    have e2 : (i : Int) = mxI (lkW m p g x nx) (i + 1) := (if_pos h2).symm
    refine ⟨i + 1, [], by omega, by omega, ?_⟩
    refine Sub.of ?_ ?_ ?_
    repeat' (first | (refine And.intro ?_ ?_) | exact trivial | exact fun _ _ _ => hsc _ _ | (exact congrArg intV (by first | with_reducible rfl | with_reducible assumption)) | exact (rfl : AV.idsLt _ _ = true) | exact (rfl : _ = AV.ren _ (.own _)) | exact (rfl : _ = AV.ren _ (.fn _ _)) | exact (rfl : _ = AV.ren _ (.gh _)) | (exact congrArg intV (by assumption)) | (refine congrArg intV ((wr_id (by omega) (by omega)).trans (by omega))) | exact rfl | (simp only [Int.toNat_natCast, Int.toNat_zero, Nat.sub_zero, Nat.zero_add]; first | exact rfl | done) | exact all0 | exact fun h => Bool.noConfusion h | exact fun _ _ _ _ => rfl | omega)
  · have h2 : ¬ lkW m p g x nx i > mxV (lkW m p g x nx) i := by rw [← hW (by omega)]; exact hb
    have e1 : mxV (lkW m p g x nx) i = mxV (lkW m p g x nx) (i + 1) := (if_neg h2).symm
    have e2 : mxI (lkW m p g x nx) i = mxI (lkW m p g x nx) (i + 1) := (if_neg h2).symm
    refine ⟨i + 1, [], by omega, by omega, ?_⟩
    refine Sub.of ?_ ?_ ?_
    repeat' (first | (refine And.intro ?_ ?_) | exact trivial | exact fun _ _ _ => hsc _ _ | (exact congrArg intV (by first | with_reducible rfl | with_reducible assumption)) | exact (rfl : AV.idsLt _ _ = true) | exact (rfl : _ = AV.ren _ (.own _)) | exact (rfl : _ = AV.ren _ (.fn _ _)) | exact (rfl : _ = AV.ren _ (.gh _)) | (exact congrArg intV (by assumption)) | (refine congrArg intV ((wr_id (by omega) (by omega)).trans (by omega))) | exact rfl | (simp only [Int.toNat_natCast, Int.toNat_zero, Nat.sub_zero, Nat.zero_add]; first | exact rfl | done) | exact all0 | exact fun h => Bool.noConfusion h | exact fun _ _ _ _ => rfl | omega)
  iterate 3
    · obtain rfl : i = nx := by omega
      first
      | exact (if_pos h0).symm
      | exact h0.symm
end Go.Proofs.Ytdakikgebfphmaa
