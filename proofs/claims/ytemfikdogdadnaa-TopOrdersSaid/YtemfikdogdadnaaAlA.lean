/-
  Alarms: checks.
-/
import Derived.Test.YtemfikdogdadnaaAlP
namespace Go.Proofs.Ytemfikdogdadnaa
open Go.RowKit

theorem alIx (n : Nat) (p : Nat → ByteArray) (x : ByteArray) (hn : n ≤ maxLen) : Fn1 Try.prog 75 [.c (.sl 1 n (cS p)), strV x] (intV (fidx (sameN p x) n)) := by
  refine fn_of_wpx (O := lex) tab_ok gamN1_ok mixed Try.func75 (by kernel_rfl) rfl rfl rfl (by simp [Try.ntmps75]) (by kernel_rfl) ?_
  have hn' : n ≤ 9223372036854775807 := hn
  conv => whnf
  repeat' (first
    | (refine NilG.mk fun bn hbn hbx => ?_; conv => whnf)
    | (refine Both.mk ?_ ?_ <;> conv => whnf)
    | ((first | (refine MkG.box 1 rfl rfl rfl (by decide) ?_) | (refine MkG.box 2 rfl rfl rfl (by decide) ?_) | (refine MkG.box 3 rfl rfl rfl (by decide) ?_) | (refine MkG.row ?_)); conv => whnf)
    | exact trivial
    | (refine Br.mk (fun hb => ?_) (fun hb => ?_) <;> (first | (exfalso; revert hb; decide) | ((try simp only [BL] at hb) <;> (try simp only [DL] at hb) <;> conv => whnf)))
    | (refine And.intro ?_ ?_; (focus (first | exact id | exact rfl | exact trivial | (intro hg; first | exact hg | exact rfl | (simp; done) | (simp at hg ⊢; assumption)) | omega | decide | exact is2_c _ _ _ | exact is1_c _ _ | exact isS_c _ _ | exact isB_c _ _ | exact Nat.le_refl _ | assumption | exact mulLe (by decide) (by omega) | exact mulLe2 (by decide) (by omega) (by omega) | (intros; simp only [BL] at *; omega) | (intros; (try simp only [BL] at *); (try simp only [DL] at *); omega) | (intros; simp only [BL] at *; rw [wr_id (by omega) (by omega)]; omega) | (intro h1 h2; exact Bool.and_eq_true_iff.2 ⟨h1, h2⟩) | (intros; simp_all; done))); conv => whnf)
    | (refine Or.inr (And.intro rfl ?_); first | (refine congrArg intV ?_) | (refine congrArg boolV ?_) | (refine tupII ?_ ?_) | (refine tupIII ?_ ?_ ?_) | (refine tupU ?_ ?_ ?_ ?_ ?_) | exact rfl))
  refine sem_loop tab_ok gamN1_ok mixed (by kernel_rfl) (O := lex) (fun i : Nat => ⟨[(8, intV i), (7, intV n), (0, .c (.sl 1 n (cS p))), (1, strV x)], []⟩) (fun i => i ≤ n ∧ ∀ k, k < i → sameN p x k = false) (fun i => n - i) ⟨0, [], ⟨Nat.zero_le _, fun k hk => absurd hk (Nat.not_lt_zero _)⟩, ?_⟩ fun i hi => ?_
  · refine Sub.of ?_ ?_ ?_
    repeat' (first | (refine And.intro ?_ ?_) | exact trivial | exact fun _ _ _ => hsc _ _ | (exact congrArg intV (by first | with_reducible rfl | with_reducible assumption)) | exact (rfl : AV.idsLt _ _ = true) | exact (rfl : _ = AV.ren _ (.own _)) | exact (rfl : _ = AV.ren _ (.fn _ _)) | exact (rfl : _ = AV.ren _ (.gh _)) | (exact congrArg intV (by assumption)) | (refine congrArg intV ((wr_id (by omega) (by omega)).trans (by omega))) | exact rfl | (simp only [Int.toNat_natCast, Int.toNat_zero, Nat.sub_zero, Nat.zero_add]; first | exact rfl | done) | exact all0 | exact fun h => Bool.noConfusion h | exact fun _ _ _ _ => rfl | omega)
  conv => whnf
  repeat' (first
    | (refine NilG.mk fun bn hbn hbx => ?_; conv => whnf)
    | (refine Both.mk ?_ ?_ <;> conv => whnf)
    | ((first | (refine MkG.box 1 rfl rfl rfl (by decide) ?_) | (refine MkG.box 2 rfl rfl rfl (by decide) ?_) | (refine MkG.box 3 rfl rfl rfl (by decide) ?_) | (refine MkG.row ?_)); conv => whnf)
    | exact trivial
    | (refine Br.mk (fun hb => ?_) (fun hb => ?_) <;> (first | (exfalso; revert hb; decide) | ((try simp only [BL] at hb) <;> (try simp only [DL] at hb) <;> (first | (exfalso; omega) | (conv => whnf)))))
    | (refine And.intro ?_ ?_; (focus (first | exact id | exact rfl | exact trivial | (intro hg; first | exact hg | exact rfl | (simp; done) | (simp at hg ⊢; assumption)) | omega | decide | exact is2_c _ _ _ | exact is1_c _ _ | exact isS_c _ _ | exact isB_c _ _ | exact Nat.le_refl _ | assumption | exact mulLe (by decide) (by omega) | exact mulLe2 (by decide) (by omega) (by omega) | (intros; simp only [BL] at *; omega) | (intros; (try simp only [BL] at *); (try simp only [DL] at *); omega) | (intros; simp only [BL] at *; rw [wr_id (by omega) (by omega)]; omega) | (intro h1 h2; exact Bool.and_eq_true_iff.2 ⟨h1, h2⟩) | (intros; simp_all; done))); conv => whnf)
    | (refine Or.inr (And.intro rfl ?_); first | (refine congrArg intV ?_) | (refine congrArg boolV ?_) | (refine tupII ?_ ?_) | (refine tupIII ?_ ?_ ?_) | (refine tupU ?_ ?_ ?_ ?_ ?_) | exact rfl))
  · exact (fidx_at hi.2 (b_eq.2 (b_eq.1 hb).symm) (by omega)).symm
  · have h1 : sameN p x i = false := b_ne.2 fun e => b_ne.1 hb e.symm
    refine ⟨i + 1, [], ⟨by omega, fun k hk => by rcases Nat.lt_succ_iff_lt_or_eq.1 hk with h | rfl <;> first | exact hi.2 k h | exact h1⟩, by omega, ?_⟩
    refine Sub.of ?_ ?_ ?_
    repeat' (first | (refine And.intro ?_ ?_) | exact trivial | exact fun _ _ _ => hsc _ _ | (exact congrArg intV (by first | with_reducible rfl | with_reducible assumption)) | exact (rfl : AV.idsLt _ _ = true) | exact (rfl : _ = AV.ren _ (.own _)) | exact (rfl : _ = AV.ren _ (.fn _ _)) | exact (rfl : _ = AV.ren _ (.gh _)) | (exact congrArg intV (by assumption)) | (refine congrArg intV ((wr_id (by omega) (by omega)).trans (by omega))) | exact rfl | (simp only [Int.toNat_natCast, Int.toNat_zero, Nat.sub_zero, Nat.zero_add]; first | exact rfl | done) | exact all0 | exact fun h => Bool.noConfusion h | exact fun _ _ _ _ => rfl | omega)
  · obtain rfl : i = n := by omega
    exact (fidx_none hi.2).symm
theorem alHas (n : Nat) (p : Nat → ByteArray) (x : ByteArray) (hn : n ≤ maxLen) : Fn1 Try.prog 41 [.c (.sl 1 n (cS p)), strV x] (boolV (hasB p n x)) := by
  refine fn_of_wpx (O := lex) tab_ok (Γ := fun _ => none) (fun _ _ h => by cases h) mixed Try.func41 (by kernel_rfl) rfl rfl rfl (by simp [Try.ntmps41]) (by kernel_rfl) ?_
  conv => whnf
  repeat' (first
    | (refine NilG.mk fun bn hbn hbx => ?_; conv => whnf)
    | (refine Both.mk ?_ ?_ <;> conv => whnf)
    | ((first | (refine MkG.box 1 rfl rfl rfl (by decide) ?_) | (refine MkG.box 2 rfl rfl rfl (by decide) ?_) | (refine MkG.box 3 rfl rfl rfl (by decide) ?_) | (refine MkG.row ?_)); conv => whnf)
    | exact trivial
    | (refine Br.mk (fun hb => ?_) (fun hb => ?_) <;> (first | (exfalso; revert hb; decide) | ((try simp only [BL] at hb) <;> (try simp only [DL] at hb) <;> conv => whnf)))
    | (refine And.intro ?_ ?_; (focus (first | exact id | exact rfl | exact trivial | (intro hg; first | exact hg | exact rfl | (simp; done) | (simp at hg ⊢; assumption)) | omega | decide | exact is2_c _ _ _ | exact is1_c _ _ | exact isS_c _ _ | exact isB_c _ _ | exact Nat.le_refl _ | assumption | exact mulLe (by decide) (by omega) | exact mulLe2 (by decide) (by omega) (by omega) | (intros; simp only [BL] at *; omega) | (intros; (try simp only [BL] at *); (try simp only [DL] at *); omega) | (intros; simp only [BL] at *; rw [wr_id (by omega) (by omega)]; omega) | (intro h1 h2; exact Bool.and_eq_true_iff.2 ⟨h1, h2⟩) | (intros; simp_all; done))); conv => whnf)
    | (refine Or.inr (And.intro rfl ?_); first | (refine congrArg intV ?_) | (refine congrArg boolV ?_) | (refine tupII ?_ ?_) | (refine tupIII ?_ ?_ ?_) | (refine tupU ?_ ?_ ?_ ?_ ?_) | exact rfl))
  refine CallG.mk (Fn.mono (alIx n p x hn) ?_)
  rintro obs r ⟨rfl, rfl⟩
  conv => whnf
  repeat' (first
    | (refine NilG.mk fun bn hbn hbx => ?_; conv => whnf)
    | (refine Both.mk ?_ ?_ <;> conv => whnf)
    | ((first | (refine MkG.box 1 rfl rfl rfl (by decide) ?_) | (refine MkG.box 2 rfl rfl rfl (by decide) ?_) | (refine MkG.box 3 rfl rfl rfl (by decide) ?_) | (refine MkG.row ?_)); conv => whnf)
    | exact trivial
    | (refine Br.mk (fun hb => ?_) (fun hb => ?_) <;> (first | (exfalso; revert hb; decide) | ((try simp only [BL] at hb) <;> (try simp only [DL] at hb) <;> conv => whnf)))
    | (refine And.intro ?_ ?_; (focus (first | exact id | exact rfl | exact trivial | (intro hg; first | exact hg | exact rfl | (simp; done) | (simp at hg ⊢; assumption)) | omega | decide | exact is2_c _ _ _ | exact is1_c _ _ | exact isS_c _ _ | exact isB_c _ _ | exact Nat.le_refl _ | assumption | exact mulLe (by decide) (by omega) | exact mulLe2 (by decide) (by omega) (by omega) | (intros; simp only [BL] at *; omega) | (intros; (try simp only [BL] at *); (try simp only [DL] at *); omega) | (intros; simp only [BL] at *; rw [wr_id (by omega) (by omega)]; omega) | (intro h1 h2; exact Bool.and_eq_true_iff.2 ⟨h1, h2⟩) | (intros; simp_all; done))); conv => whnf)
    | (refine Or.inr (And.intro rfl ?_); first | (refine congrArg intV ?_) | (refine congrArg boolV ?_) | (refine tupII ?_ ?_) | (refine tupIII ?_ ?_ ?_) | (refine tupU ?_ ?_ ?_ ?_ ?_) | exact rfl))
  · rfl
theorem alIdx (n : Nat) (p : Nat → ByteArray) (x : ByteArray) (hn : n ≤ maxLen) : Fn1 Try.prog 94 [.c (.sl 1 n (cS p)), strV x] (intV (fidx (sameN p x) n)) := by
  refine fn_of_wpx (O := lex) tab_ok gamN1_ok mixed Try.func94 (by kernel_rfl) rfl rfl rfl (by simp [Try.ntmps94]) (by kernel_rfl) ?_
  have hn' : n ≤ 9223372036854775807 := hn
  conv => whnf
  repeat' (first
    | (refine NilG.mk fun bn hbn hbx => ?_; conv => whnf)
    | (refine Both.mk ?_ ?_ <;> conv => whnf)
    | ((first | (refine MkG.box 1 rfl rfl rfl (by decide) ?_) | (refine MkG.box 2 rfl rfl rfl (by decide) ?_) | (refine MkG.box 3 rfl rfl rfl (by decide) ?_) | (refine MkG.row ?_)); conv => whnf)
    | exact trivial
    | (refine Br.mk (fun hb => ?_) (fun hb => ?_) <;> (first | (exfalso; revert hb; decide) | ((try simp only [BL] at hb) <;> (try simp only [DL] at hb) <;> conv => whnf)))
    | (refine And.intro ?_ ?_; (focus (first | exact id | exact rfl | exact trivial | (intro hg; first | exact hg | exact rfl | (simp; done) | (simp at hg ⊢; assumption)) | omega | decide | exact is2_c _ _ _ | exact is1_c _ _ | exact isS_c _ _ | exact isB_c _ _ | exact Nat.le_refl _ | assumption | exact mulLe (by decide) (by omega) | exact mulLe2 (by decide) (by omega) (by omega) | (intros; simp only [BL] at *; omega) | (intros; (try simp only [BL] at *); (try simp only [DL] at *); omega) | (intros; simp only [BL] at *; rw [wr_id (by omega) (by omega)]; omega) | (intro h1 h2; exact Bool.and_eq_true_iff.2 ⟨h1, h2⟩) | (intros; simp_all; done))); conv => whnf)
    | (refine Or.inr (And.intro rfl ?_); first | (refine congrArg intV ?_) | (refine congrArg boolV ?_) | (refine tupII ?_ ?_) | (refine tupIII ?_ ?_ ?_) | (refine tupU ?_ ?_ ?_ ?_ ?_) | exact rfl))
  refine sem_loop tab_ok gamN1_ok mixed (by kernel_rfl) (O := lex) (fun i : Nat => ⟨[(1, strV x), (7, .c (.sl 1 n (cS p))), (8, intV n), (9, intV i)], []⟩) (fun i => i ≤ n ∧ ∀ k, k < i → sameN p x k = false) (fun i => n - i) ⟨0, [], ⟨Nat.zero_le _, fun k hk => absurd hk (Nat.not_lt_zero _)⟩, ?_⟩ fun i hi => ?_
  · refine Sub.of ?_ ?_ ?_
    repeat' (first | (refine And.intro ?_ ?_) | exact trivial | exact fun _ _ _ => hsc _ _ | (exact congrArg intV (by first | with_reducible rfl | with_reducible assumption)) | exact (rfl : AV.idsLt _ _ = true) | exact (rfl : _ = AV.ren _ (.own _)) | exact (rfl : _ = AV.ren _ (.fn _ _)) | exact (rfl : _ = AV.ren _ (.gh _)) | (exact congrArg intV (by assumption)) | (refine congrArg intV ((wr_id (by omega) (by omega)).trans (by omega))) | exact rfl | (simp only [Int.toNat_natCast, Int.toNat_zero, Nat.sub_zero, Nat.zero_add]; first | exact rfl | done) | exact all0 | exact fun h => Bool.noConfusion h | exact fun _ _ _ _ => rfl | omega)
  conv => whnf
  repeat' (first
    | (refine NilG.mk fun bn hbn hbx => ?_; conv => whnf)
    | (refine Both.mk ?_ ?_ <;> conv => whnf)
    | ((first | (refine MkG.box 1 rfl rfl rfl (by decide) ?_) | (refine MkG.box 2 rfl rfl rfl (by decide) ?_) | (refine MkG.box 3 rfl rfl rfl (by decide) ?_) | (refine MkG.row ?_)); conv => whnf)
    | exact trivial
    | (refine Br.mk (fun hb => ?_) (fun hb => ?_) <;> (first | (exfalso; revert hb; decide) | ((try simp only [BL] at hb) <;> (try simp only [DL] at hb) <;> (first | (exfalso; omega) | (conv => whnf)))))
    | (refine And.intro ?_ ?_; (focus (first | exact id | exact rfl | exact trivial | (intro hg; first | exact hg | exact rfl | (simp; done) | (simp at hg ⊢; assumption)) | omega | decide | exact is2_c _ _ _ | exact is1_c _ _ | exact isS_c _ _ | exact isB_c _ _ | exact Nat.le_refl _ | assumption | exact mulLe (by decide) (by omega) | exact mulLe2 (by decide) (by omega) (by omega) | (intros; simp only [BL] at *; omega) | (intros; (try simp only [BL] at *); (try simp only [DL] at *); omega) | (intros; simp only [BL] at *; rw [wr_id (by omega) (by omega)]; omega) | (intro h1 h2; exact Bool.and_eq_true_iff.2 ⟨h1, h2⟩) | (intros; simp_all; done))); conv => whnf)
    | (refine Or.inr (And.intro rfl ?_); first | (refine congrArg intV ?_) | (refine congrArg boolV ?_) | (refine tupII ?_ ?_) | (refine tupIII ?_ ?_ ?_) | (refine tupU ?_ ?_ ?_ ?_ ?_) | exact rfl))
  · exact (fidx_at hi.2 hb (by omega)).symm
  · have h1 : sameN p x i = false := hb
    refine ⟨i + 1, [], ⟨by omega, fun k hk => by rcases Nat.lt_succ_iff_lt_or_eq.1 hk with h | rfl <;> first | exact hi.2 k h | exact h1⟩, by omega, ?_⟩
    refine Sub.of ?_ ?_ ?_
    repeat' (first | (refine And.intro ?_ ?_) | exact trivial | exact fun _ _ _ => hsc _ _ | (exact congrArg intV (by first | with_reducible rfl | with_reducible assumption)) | exact (rfl : AV.idsLt _ _ = true) | exact (rfl : _ = AV.ren _ (.own _)) | exact (rfl : _ = AV.ren _ (.fn _ _)) | exact (rfl : _ = AV.ren _ (.gh _)) | (exact congrArg intV (by assumption)) | (refine congrArg intV ((wr_id (by omega) (by omega)).trans (by omega))) | exact rfl | (simp only [Int.toNat_natCast, Int.toNat_zero, Nat.sub_zero, Nat.zero_add]; first | exact rfl | done) | exact all0 | exact fun h => Bool.noConfusion h | exact fun _ _ _ _ => rfl | omega)
  · obtain rfl : i = n := by omega
    exact (fidx_none hi.2).symm
def nmOk (n : Nat) (p : Nat → ByteArray) : Prop := n ≤ maxLen ∧ ∀ k, k < n → (p k).size ≤ maxLen
def nmE1 (p : Nat → ByteArray) (k : Nat) : Int := if nameB (p k) = true then (if hasB p k (p k) = true then 7 else 0) else 6
def sHas (F : (Nat → ByteArray) → Nat → ByteArray → AV) : List AV → Sd × AV
  | [.c (.sl 1 n f), .c (.v (.string x))] => (.p (isS n f ∧ n ≤ maxLen), F (dS f) n x)
  | _ => (.p False, .top)
theorem sHas_ok {f : FuncId} {F} (h : ∀ n p x, n ≤ maxLen → Fn1 Try.prog f [.c (.sl 1 n (cS p)), strV x] (F p n x)) : ∀ args, (sHas F args).1.ok → (sHas F args).2.exact.isSome = true → Fn1 Try.prog f args (sHas F args).2 := fun args hs _ => by
  unfold sHas at hs ⊢
  split at hs
  · exact (h _ _ _ hs.2).le (Le.cons (Le1.sl hs.1) (Le.cons (Le1.refl _) Le.nil))
  · exact hs.elim
def cCs (C : Css) : Nat → Nat → L := fun k j => [sL (C.of k), sL (C.by_ k)].getD j .un
def Css.ok (C : Css) : Prop := C.m ≤ maxLen ∧ ∀ k, k < C.m → (C.of k).size ≤ maxLen ∧ (C.by_ k).size ≤ maxLen
def sameC (C : Css) (a b : ByteArray) (k : Nat) : Bool := decide (C.of k = a ∧ C.by_ k = b)
def hasC (C : Css) (n : Nat) (a b : ByteArray) : Bool := decide (fidx (sameC C a b) n ≥ 0)
theorem hasC_iff {C : Css} {n : Nat} {a b : ByteArray} : hasC C n a b = true ↔ ∃ j, j < n ∧ C.of j = a ∧ C.by_ j = b := by
  unfold hasC
  rw [decide_eq_true_eq]
  constructor
  · intro h
    refine Decidable.byContradiction fun hn => ?_
    rw [fidx_none (b := sameC C a b) fun k hk => (decide_eq_false fun e => hn ⟨k, hk, e⟩ : sameC C a b k = false)] at h
    exact absurd h (by decide)
  · rintro ⟨j, h1, h2⟩
    refine Decidable.byContradiction fun hn => ?_
    have := fidx_neg hn j h1
    rw [show sameC C a b j = true from decide_eq_true h2] at this
    cases this
/-- rows of causes, looked at -/
def cssF (f : Nat → Nat → L) (n : Nat) : Css := ⟨n, dS f, fun k => dS (fun k _ => f k 1) k⟩
def isC2 (n : Nat) (f : Nat → Nat → L) : Prop := ∀ k, k < n → ∀ j, j < 2 → f k j = cCs (cssF f n) k j
def sHasC : List AV → Sd × AV
  | [.c (.sl 2 n f), .agg [.c (.v (.string a)), .c (.v (.string b))]] => (.p (isC2 n f ∧ n ≤ maxLen), boolV (hasC (cssF f n) n a b))
  | _ => (.p False, .top)
def gamAa : Gam := fun f => match f with
  | 38 => some (s1S (fun a => a.size ≤ maxLen) nameB)
  | 58 => some (s1S (fun a => a.size ≤ maxLen) nameB)
  | 41 => some (sHas fun p n x => boolV (hasB p n x))
  | 94 => some (sHas fun p n x => intV (fidx (sameN p x) n))
  | _ => gamN1 f
theorem gamAa_ok : GOk Try.prog gamAa := fun f g h => by
  unfold gamAa at h
  split at h
  · injection h with h; subst h; exact s1S_ok name1
  · injection h with h; subst h; exact s1S_ok named4
  · injection h with h; subst h; exact sHas_ok alHas
  · injection h with h; subst h; exact sHas_ok alIdx
  · exact gamN1_ok _ _ h
theorem has_z {p : Nat → ByteArray} {k : Nat} : hasB (dS fun q j => cS p (Int.toNat 0 + q) j) (k - Int.toNat 0) (p k) = hasB p k (p k) := has_congr fun j _ => by show p (0 + j) = p j; rw [Nat.zero_add]
theorem idx_z {p : Nat → ByteArray} {k : Nat} : fidx (sameN (dS fun q j => cS p (Int.toNat 0 + q) j) (p k)) (k - Int.toNat 0) ≥ 0 ↔ hasB p k (p k) = true := by
  rw [← has_z, hasB, decide_eq_true_eq]

/-- the error of causes -/
def caE1 (C : Css) (k : Nat) : Int := if nameB (C.of k) = true ∧ nameB (C.by_ k) = true then (if C.of k = C.by_ k then 3 else if hasC C k (C.of k) (C.by_ k) = true then 7 else 0) else 6
def caE (C : Css) : Int := if 40 < C.m then 2 else fst (caE1 C) C.m
def alE (C : Css) (n : Nat) (l : Nat → ByteArray) : Int := if caE C = 0 then (if 24 < n then 2 else fst (nmE1 l) n) else caE C
theorem ca_at {C : Css} {k : Nat} {c : Int} (h : ¬ 40 < C.m) (h0 : ∀ j, j < k → caE1 C j = 0) (hk : k < C.m) (he : caE1 C k = c) (hc : c ≠ 0) : c = caE C := (fst_eq (fst_of h0) hk he hc).trans (if_neg h).symm
theorem hasC_z {C : Css} {k : Nat} : hasC (cssF (fun q j => cCs C (Int.toNat 0 + q) j) (k - Int.toNat 0)) (k - Int.toNat 0) (C.of k) (C.by_ k) = hasC C k (C.of k) (C.by_ k) := by
  rw [Bool.eq_iff_iff, hasC_iff, hasC_iff]
  have e : ∀ j, Int.toNat 0 + j = j := fun j => Nat.zero_add j
  constructor
  · rintro ⟨j, h1, h2, h3⟩
    exact ⟨j, h1, (congrArg C.of (e j)).symm.trans h2, (congrArg C.by_ (e j)).symm.trans h3⟩
  · rintro ⟨j, h1, h2, h3⟩
    exact ⟨j, h1, (congrArg C.of (e j)).trans h2, (congrArg C.by_ (e j)).trans h3⟩
def sCk : List AV → Sd × AV
  | [.c (.sl 2 n f)] => (.p (isC2 n f ∧ (cssF f n).ok), intV (caE (cssF f n)))
  | _ => (.p False, .top)
def gamAb : Gam := fun f => match f with
  | _ => gamAa f
theorem gamAb_ok : GOk Try.prog gamAb := fun f g h => by
  unfold gamAb at h
  split at h
  · exact gamAa_ok _ _ h
theorem al_at {C : Css} {n k : Nat} {l : Nat → ByteArray} {c : Int} (h9 : caE C = 0) (h : ¬ 24 < n) (h0 : ∀ j, j < k → nmE1 l j = 0) (hk : k < n) (he : nmE1 l k = c) (hc : c ≠ 0) : c = alE C n l := (fst_eq (fst_of h0) hk he hc).trans ((if_neg h).symm.trans (if_pos h9).symm)
end Go.Proofs.Ytemfikdogdadnaa
