/-
  Offers: sums, costs, prices, and the references' forms of these.
-/
import Derived.Test.YtemfikdogdadnaaOff
namespace Go.Proofs.Ytemfikdogdadnaa
open Go.RowKit

def sO (P : ByteArray → Nat → (Nat → Int) → (Nat → Int) → Prop) (g : ByteArray → Nat → (Nat → Int) → (Nat → Int) → AV) : List AV → Sd × AV
  | [.agg [.c (.v (.string s)), .c (.sl 2 n f)]] => (.p (is2 n f ∧ P s n (d0 f) (d1 f)), g s n (d0 f) (d1 f))
  | _ => (.p False, .top)
theorem sO_ok {f : FuncId} {P} {g} (h : ∀ s n p q, P s n p q → Fn1 Try.prog f [offV s n p q] (g s n p q)) : ∀ args, (sO P g args).1.ok → (sO P g args).2.exact.isSome = true → Fn1 Try.prog f args (sO P g args).2 := fun args hs _ => by
  unfold sO at hs ⊢
  split at hs
  · exact (h _ _ _ _ hs.2).le (Le.cons (offV_le hs.1) Le.nil)
  · exact hs.elim
def sOi (P : ByteArray → Nat → (Nat → Int) → (Nat → Int) → Int → Prop) (g : ByteArray → Nat → (Nat → Int) → (Nat → Int) → Int → AV) : List AV → Sd × AV
  | [.agg [.c (.v (.string s)), .c (.sl 2 n f)], .c (.v (.int .i64 x))] => (.p (is2 n f ∧ P s n (d0 f) (d1 f) x), g s n (d0 f) (d1 f) x)
  | _ => (.p False, .top)
theorem sOi_ok {f : FuncId} {P} {g} (h : ∀ s n p q x, P s n p q x → Fn1 Try.prog f [offV s n p q, intV x] (g s n p q x)) : ∀ args, (sOi P g args).1.ok → (sOi P g args).2.exact.isSome = true → Fn1 Try.prog f args (sOi P g args).2 := fun args hs _ => by
  unfold sOi at hs ⊢
  split at hs
  · exact (h _ _ _ _ _ hs.2).le (Le.cons (offV_le hs.1) (Le.cons (Le1.refl _) Le.nil))
  · exact hs.elim

theorem okOff.S0 {n : Nat} {p q : Nat → Int} (h : okOff n p q) {k : Nat} (hk : k ≤ n) : 0 ≤ S p k ∧ S p k ≤ 100000 ∧ (k : Int) ≤ S p k := by
  have := S_le (p := p) (a := 1) (b := 100000) (k := k) fun j hj => by have := h.2.1 j (by omega); omega
  have := h.2.2.2 k hk
  omega

theorem offSum (s : ByteArray) (n : Nat) (p q : Nat → Int) (h : okOff n p q) : Fn1 Try.prog 108 [offV s n p q] (intV (S p n)) := by
  refine fn_of_wpx (O := lex) tab_ok gamO1_ok mixed Try.func108 (by kernel_rfl) rfl rfl rfl (by simp [Try.ntmps108]) (by kernel_rfl) ?_
  have hn := h.1
  conv => whnf
  repeat' (first
    | (refine NilG.mk fun bn hbn hbx => ?_; conv => whnf)
    | (refine Both.mk ?_ ?_ <;> conv => whnf)
    | ((first | (refine MkG.box 1 rfl rfl rfl (by decide) ?_) | (refine MkG.box 2 rfl rfl rfl (by decide) ?_) | (refine MkG.box 3 rfl rfl rfl (by decide) ?_) | (refine MkG.row ?_)); conv => whnf)
    | exact trivial
    | (refine Br.mk (fun hb => ?_) (fun hb => ?_) <;> (first | (exfalso; revert hb; decide) | ((try simp only [BL] at hb) <;> (try simp only [DL] at hb) <;> conv => whnf)))
    | (refine And.intro ?_ ?_; (focus (first | exact id | exact rfl | exact trivial | (intro hg; first | exact hg | exact rfl | (simp; done) | (simp at hg ⊢; assumption)) | omega | decide | exact is2_c _ _ _ | exact is1_c _ _ | exact isS_c _ _ | exact isB_c _ _ | exact Nat.le_refl _ | assumption | exact mulLe (by decide) (by omega) | exact mulLe2 (by decide) (by omega) (by omega) | (intros; simp only [BL] at *; omega) | (intros; (try simp only [BL] at *); (try simp only [DL] at *); omega) | (intros; simp only [BL] at *; rw [wr_id (by omega) (by omega)]; omega) | (intro h1 h2; exact Bool.and_eq_true_iff.2 ⟨h1, h2⟩) | (intros; simp_all; done))); conv => whnf)
    | (refine Or.inr (And.intro rfl ?_); first | (refine congrArg intV ?_) | (refine congrArg boolV ?_) | (refine tupII ?_ ?_) | (refine tupIII ?_ ?_ ?_) | (refine tupU ?_ ?_ ?_ ?_ ?_) | exact rfl))
  refine sem_loop tab_ok gamO1_ok mixed (by kernel_rfl) (O := lex) (fun i : Nat => ⟨[(9, intV i), (8, intV n), (7, .c (.sl 2 n (c2 p q))), (3, intV (S p i))], []⟩) (fun i => i ≤ n) (fun i => n - i) ⟨0, [], Nat.zero_le _, ?_⟩ fun i hi => ?_
  · repeat' (first | (refine And.intro ?_ ?_) | exact trivial | exact fun _ _ _ => hsc _ _ | (exact congrArg intV (by first | with_reducible rfl | with_reducible assumption)) | exact (rfl : AV.idsLt _ _ = true) | exact (rfl : _ = AV.ren _ (.own _)) | exact (rfl : _ = AV.ren _ (.fn _ _)) | exact (rfl : _ = AV.ren _ (.gh _)) | (exact congrArg intV (by assumption)) | (refine congrArg intV ((wr_id (by omega) (by omega)).trans (by omega))) | exact rfl | (simp only [Int.toNat_natCast, Int.toNat_zero, Nat.sub_zero, Nat.zero_add]; first | exact rfl | done))
  have hS := h.S0 hi
  conv => whnf
  repeat' (first
    | (refine NilG.mk fun bn hbn hbx => ?_; conv => whnf)
    | (refine Both.mk ?_ ?_ <;> conv => whnf)
    | ((first | (refine MkG.box 1 rfl rfl rfl (by decide) ?_) | (refine MkG.box 2 rfl rfl rfl (by decide) ?_) | (refine MkG.box 3 rfl rfl rfl (by decide) ?_) | (refine MkG.row ?_)); conv => whnf)
    | exact trivial
    | (refine Br.mk (fun hb => ?_) (fun hb => ?_) <;> (first | (exfalso; revert hb; decide) | ((try simp only [BL] at hb) <;> (try simp only [DL] at hb) <;> conv => whnf)))
    | (refine And.intro ?_ ?_; (focus (first | exact id | exact rfl | exact trivial | (intro hg; first | exact hg | exact rfl | (simp; done) | (simp at hg ⊢; assumption)) | omega | decide | exact is2_c _ _ _ | exact is1_c _ _ | exact isS_c _ _ | exact isB_c _ _ | exact Nat.le_refl _ | assumption | exact mulLe (by decide) (by omega) | exact mulLe2 (by decide) (by omega) (by omega) | (intros; simp only [BL] at *; omega) | (intros; (try simp only [BL] at *); (try simp only [DL] at *); omega) | (intros; simp only [BL] at *; rw [wr_id (by omega) (by omega)]; omega) | (intro h1 h2; exact Bool.and_eq_true_iff.2 ⟨h1, h2⟩) | (intros; simp_all; done))); conv => whnf)
    | (refine Or.inr (And.intro rfl ?_); first | (refine congrArg intV ?_) | (refine congrArg boolV ?_) | (refine tupII ?_ ?_) | (refine tupIII ?_ ?_ ?_) | (refine tupU ?_ ?_ ?_ ?_ ?_) | exact rfl))
  · have hS1 := h.S0 (k := i + 1) (by omega)
    have hp := h.2.1 i (by omega)
    have e1 : IntKind.i64.wrap (S p i + p i) = S p (i + 1) := wr_id (by omega) (by omega)
    refine ⟨i + 1, [], by omega, by omega, ?_⟩
    repeat' (first | (refine And.intro ?_ ?_) | exact trivial | exact fun _ _ _ => hsc _ _ | (exact congrArg intV (by first | with_reducible rfl | with_reducible assumption)) | exact (rfl : AV.idsLt _ _ = true) | exact (rfl : _ = AV.ren _ (.own _)) | exact (rfl : _ = AV.ren _ (.fn _ _)) | exact (rfl : _ = AV.ren _ (.gh _)) | (exact congrArg intV (by assumption)) | (refine congrArg intV ((wr_id (by omega) (by omega)).trans (by omega))) | exact rfl | (simp only [Int.toNat_natCast, Int.toNat_zero, Nat.sub_zero, Nat.zero_add]; first | exact rfl | done))
  · rw [show i = n by omega]

theorem bef_ok {n k : Nat} {p q : Nat → Int} (h : okOff n p q) (hk : k ≤ n) : is2 n (c2 p q) ∧ 0 ≤ (k : Int) ∧ (k : Int) ≤ n ∧ n ≤ 1000 ∧ ∀ i, i < (k : Int).toNat → 0 ≤ d0 (c2 p q) i ∧ d0 (c2 p q) i ≤ 1000000 := by
  have hn := h.1
  refine ⟨is2_c _ _ _, by omega, by omega, by omega, fun i hi => ?_⟩
  rw [Int.toNat_natCast] at hi
  have := h.2.1 i (by omega)
  simp only [DL]
  omega

theorem offAll (s : ByteArray) (n : Nat) (p q : Nat → Int) (h : okOff n p q) : Fn1 Try.prog 98 [offV s n p q] (intV (S p n)) := by
  refine fn_of_wpx (O := lex) tab_ok gamO1_ok mixed Try.func98 (by kernel_rfl) rfl rfl rfl (by simp [Try.ntmps98]) (by kernel_rfl) ?_
  conv => whnf
  repeat' (first
    | (refine NilG.mk fun bn hbn hbx => ?_; conv => whnf)
    | (refine Both.mk ?_ ?_ <;> conv => whnf)
    | ((first | (refine MkG.box 1 rfl rfl rfl (by decide) ?_) | (refine MkG.box 2 rfl rfl rfl (by decide) ?_) | (refine MkG.box 3 rfl rfl rfl (by decide) ?_) | (refine MkG.row ?_)); conv => whnf)
    | exact trivial
    | (refine Br.mk (fun hb => ?_) (fun hb => ?_) <;> (first | (exfalso; revert hb; decide) | ((try simp only [BL] at hb) <;> (try simp only [DL] at hb) <;> conv => whnf)))
    | (refine And.intro ?_ ?_; (focus (first | exact id | exact rfl | exact trivial | (intro hg; first | exact hg | exact rfl | (simp; done) | (simp at hg ⊢; assumption)) | omega | decide | exact is2_c _ _ _ | exact is1_c _ _ | exact isS_c _ _ | exact isB_c _ _ | exact Nat.le_refl _ | assumption | exact mulLe (by decide) (by omega) | exact mulLe2 (by decide) (by omega) (by omega) | (intros; simp only [BL] at *; omega) | (intros; (try simp only [BL] at *); (try simp only [DL] at *); omega) | (intros; simp only [BL] at *; rw [wr_id (by omega) (by omega)]; omega) | (intro h1 h2; exact Bool.and_eq_true_iff.2 ⟨h1, h2⟩) | exact bef_ok h (Nat.le_refl _) | (intros; simp_all; done))); conv => whnf)
    | (refine Or.inr (And.intro rfl ?_); first | (refine congrArg intV ?_) | (refine congrArg boolV ?_) | (refine tupII ?_ ?_) | (refine tupIII ?_ ?_ ?_) | (refine tupU ?_ ?_ ?_ ?_ ?_) | exact rfl))
  · rfl

/-- what step k costs at a power -/
def ct (p q : Nat → Int) (x : Int) (k : Nat) : Int := min (max (x - S p k) 0) (p k) * q k
theorem ct_le {n k : Nat} {p q : Nat → Int} (h : okOff n p q) (x : Int) (hk : k < n) : -100000000000 ≤ ct p q x k ∧ ct p q x k ≤ 100000000000 := by
  have := h.2.1 k hk
  have := mulB (a := min (max (x - S p k) 0) (p k)) (b := q k) (A := 100000) (B := 1000000) (by omega) (by omega) (by omega) (by omega) (by omega)
  unfold ct
  omega
theorem C_le {n : Nat} {p q : Nat → Int} (h : okOff n p q) (x : Int) {k : Nat} (hk : k ≤ n) : -1200000000000 ≤ S (ct p q x) k ∧ S (ct p q x) k ≤ 1200000000000 := by
  have := S_le (p := ct p q x) (a := -100000000000) (b := 100000000000) (k := k) fun j hj => ct_le h x (by omega)
  have := h.1
  omega

theorem offCost1 (s : ByteArray) (n : Nat) (p q : Nat → Int) (x : Int) (h : okOff n p q ∧ 0 ≤ x ∧ x ≤ 2000000) : Fn1 Try.prog 102 [offV s n p q, intV x] (intV (S (ct p q x) n)) := by
  refine fn_of_wpx (O := lex) tab_ok gamO1_ok mixed Try.func102 (by kernel_rfl) rfl rfl rfl (by simp [Try.ntmps102]) (by kernel_rfl) ?_
  obtain ⟨h, hx0, hx1⟩ := h
  have hn := h.1
  conv => whnf
  repeat' (first
    | (refine NilG.mk fun bn hbn hbx => ?_; conv => whnf)
    | (refine Both.mk ?_ ?_ <;> conv => whnf)
    | ((first | (refine MkG.box 1 rfl rfl rfl (by decide) ?_) | (refine MkG.box 2 rfl rfl rfl (by decide) ?_) | (refine MkG.box 3 rfl rfl rfl (by decide) ?_) | (refine MkG.row ?_)); conv => whnf)
    | exact trivial
    | (refine Br.mk (fun hb => ?_) (fun hb => ?_) <;> (first | (exfalso; revert hb; decide) | ((try simp only [BL] at hb) <;> (try simp only [DL] at hb) <;> conv => whnf)))
    | (refine And.intro ?_ ?_; (focus (first | exact id | exact rfl | exact trivial | (intro hg; first | exact hg | exact rfl | (simp; done) | (simp at hg ⊢; assumption)) | omega | decide | exact is2_c _ _ _ | exact is1_c _ _ | exact isS_c _ _ | exact isB_c _ _ | exact Nat.le_refl _ | assumption | exact mulLe (by decide) (by omega) | exact mulLe2 (by decide) (by omega) (by omega) | (intros; simp only [BL] at *; omega) | (intros; (try simp only [BL] at *); (try simp only [DL] at *); omega) | (intros; simp only [BL] at *; rw [wr_id (by omega) (by omega)]; omega) | (intro h1 h2; exact Bool.and_eq_true_iff.2 ⟨h1, h2⟩) | (intros; simp_all; done))); conv => whnf)
    | (refine Or.inr (And.intro rfl ?_); first | (refine congrArg intV ?_) | (refine congrArg boolV ?_) | (refine tupII ?_ ?_) | (refine tupIII ?_ ?_ ?_) | (refine tupU ?_ ?_ ?_ ?_ ?_) | exact rfl))
  refine sem_loop tab_ok gamO1_ok mixed (by kernel_rfl) (O := lex) (fun i : Nat => ⟨[(12, intV i), (11, intV n), (10, .c (.sl 2 n (c2 p q))), (5, intV (S (ct p q x) i)), (1, intV (max (x - S p i) 0))], []⟩) (fun i => i ≤ n) (fun i => n - i) ⟨0, [], Nat.zero_le _, ?_⟩ fun i hi => ?_
  · have e0 : x = max (x - S p 0) 0 := by simp only [S]; omega
    repeat' (first | (refine And.intro ?_ ?_) | exact trivial | exact fun _ _ _ => hsc _ _ | (exact congrArg intV (by first | with_reducible rfl | with_reducible assumption)) | exact (rfl : AV.idsLt _ _ = true) | exact (rfl : _ = AV.ren _ (.own _)) | exact (rfl : _ = AV.ren _ (.fn _ _)) | exact (rfl : _ = AV.ren _ (.gh _)) | (exact congrArg intV (by assumption)) | (refine congrArg intV ((wr_id (by omega) (by omega)).trans (by omega))) | exact rfl | (simp only [Int.toNat_natCast, Int.toNat_zero, Nat.sub_zero, Nat.zero_add]; first | exact rfl | done))
  have hS := h.S0 hi
  have hC := C_le h x hi
  conv => whnf
  repeat' (first
    | (refine NilG.mk fun bn hbn hbx => ?_; conv => whnf)
    | (refine Both.mk ?_ ?_ <;> conv => whnf)
    | ((first | (refine MkG.box 1 rfl rfl rfl (by decide) ?_) | (refine MkG.box 2 rfl rfl rfl (by decide) ?_) | (refine MkG.box 3 rfl rfl rfl (by decide) ?_) | (refine MkG.row ?_)); conv => whnf)
    | exact trivial
    | (refine Br.mk (fun hb => ?_) (fun hb => ?_) <;> (first | (exfalso; revert hb; decide) | ((try simp only [BL] at hb) <;> (try simp only [DL] at hb) <;> conv => whnf)))
    | (refine And.intro ?_ ?_; (focus (first | exact id | exact rfl | exact trivial | (intro hg; first | exact hg | exact rfl | (simp; done) | (simp at hg ⊢; assumption)) | omega | decide | exact is2_c _ _ _ | exact is1_c _ _ | exact isS_c _ _ | exact isB_c _ _ | exact Nat.le_refl _ | assumption | exact mulLe (by decide) (by omega) | exact mulLe2 (by decide) (by omega) (by omega) | (intros; simp only [BL] at *; omega) | (intros; (try simp only [BL] at *); (try simp only [DL] at *); omega) | (intros; simp only [BL] at *; rw [wr_id (by omega) (by omega)]; omega) | (intro h1 h2; exact Bool.and_eq_true_iff.2 ⟨h1, h2⟩) | (intros; simp_all; done))); conv => whnf)
    | (refine Or.inr (And.intro rfl ?_); first | (refine congrArg intV ?_) | (refine congrArg boolV ?_) | (refine tupII ?_ ?_) | (refine tupIII ?_ ?_ ?_) | (refine tupU ?_ ?_ ?_ ?_ ?_) | exact rfl))
  · have hS1 := h.S0 (k := i + 1) (by omega)
    have hp := h.2.1 i (by omega)
    have hc := ct_le h x (k := i) (by omega)
    have hSS : S p (i + 1) = S p i + p i := rfl
    have hCC : S (ct p q x) (i + 1) = S (ct p q x) i + ct p q x i := rfl
    have e0 : IntKind.i64.wrap (min (max (x - S p i) 0) (p i) * q i) = ct p q x i := wr_id (by unfold ct at hc; omega) (by unfold ct at hc; omega)
    have e1 : IntKind.i64.wrap (S (ct p q x) i + IntKind.i64.wrap (min (max (x - S p i) 0) (p i) * q i)) = S (ct p q x) (i + 1) := by
      rw [e0, hCC]
      exact wr_id (by omega) (by omega)
    have e2 : IntKind.i64.wrap (max (x - S p i) 0 - min (max (x - S p i) 0) (p i)) = max (x - S p (i + 1)) 0 := by
      rw [wr_id (by omega) (by omega)]
      omega
    refine ⟨i + 1, [], by omega, by omega, ?_⟩
    repeat' (first | (refine And.intro ?_ ?_) | exact trivial | exact fun _ _ _ => hsc _ _ | (exact congrArg intV (by first | with_reducible rfl | with_reducible assumption)) | exact (rfl : AV.idsLt _ _ = true) | exact (rfl : _ = AV.ren _ (.own _)) | exact (rfl : _ = AV.ren _ (.fn _ _)) | exact (rfl : _ = AV.ren _ (.gh _)) | (exact congrArg intV (by assumption)) | (refine congrArg intV ((wr_id (by omega) (by omega)).trans (by omega))) | exact rfl | (simp only [Int.toNat_natCast, Int.toNat_zero, Nat.sub_zero, Nat.zero_add]; first | exact rfl | done))
  · rw [show i = n by omega]

theorem offCost3 (s : ByteArray) (n : Nat) (p q : Nat → Int) (x : Int) (h : okOff n p q ∧ 0 ≤ x ∧ x ≤ 2000000) : Fn1 Try.prog 65 [offV s n p q, intV x] (intV (S (ct p q x) n)) := by
  refine fn_of_wpx (O := lex) tab_ok gamO1_ok mixed Try.func65 (by kernel_rfl) rfl rfl rfl (by simp [Try.ntmps65]) (by kernel_rfl) ?_
  obtain ⟨h, hx0, hx1⟩ := h
  have hn := h.1
  conv => whnf
  repeat' (first
    | (refine NilG.mk fun bn hbn hbx => ?_; conv => whnf)
    | (refine Both.mk ?_ ?_ <;> conv => whnf)
    | ((first | (refine MkG.box 1 rfl rfl rfl (by decide) ?_) | (refine MkG.box 2 rfl rfl rfl (by decide) ?_) | (refine MkG.box 3 rfl rfl rfl (by decide) ?_) | (refine MkG.row ?_)); conv => whnf)
    | exact trivial
    | (refine Br.mk (fun hb => ?_) (fun hb => ?_) <;> (first | (exfalso; revert hb; decide) | ((try simp only [BL] at hb) <;> (try simp only [DL] at hb) <;> conv => whnf)))
    | (refine And.intro ?_ ?_; (focus (first | exact id | exact rfl | exact trivial | (intro hg; first | exact hg | exact rfl | (simp; done) | (simp at hg ⊢; assumption)) | omega | decide | exact is2_c _ _ _ | exact is1_c _ _ | exact isS_c _ _ | exact isB_c _ _ | exact Nat.le_refl _ | assumption | exact mulLe (by decide) (by omega) | exact mulLe2 (by decide) (by omega) (by omega) | (intros; simp only [BL] at *; omega) | (intros; (try simp only [BL] at *); (try simp only [DL] at *); omega) | (intros; simp only [BL] at *; rw [wr_id (by omega) (by omega)]; omega) | (intro h1 h2; exact Bool.and_eq_true_iff.2 ⟨h1, h2⟩) | (intros; simp_all; done))); conv => whnf)
    | (refine Or.inr (And.intro rfl ?_); first | (refine congrArg intV ?_) | (refine congrArg boolV ?_) | (refine tupII ?_ ?_) | (refine tupIII ?_ ?_ ?_) | (refine tupU ?_ ?_ ?_ ?_ ?_) | exact rfl))
  refine sem_loop tab_ok gamO1_ok mixed (by kernel_rfl) (O := lex) (fun i : Nat => ⟨[(12, intV i), (11, intV n), (10, .c (.sl 2 n (c2 p q))), (5, intV (S (ct p q x) i)), (1, intV x), (2, .lp 0 0)], [.box [strV s, .c (.sl 2 n (c2 p q))]]⟩) (fun i => i ≤ n) (fun i => n - i) ⟨0, [0], Nat.zero_le _, ?_⟩ fun i hi => ?_
  · repeat' (first | (refine And.intro ?_ ?_) | exact trivial | exact fun _ _ _ => hsc _ _ | (exact congrArg intV (by first | with_reducible rfl | with_reducible assumption)) | exact (rfl : AV.idsLt _ _ = true) | exact (rfl : _ = AV.ren _ (.own _)) | exact (rfl : _ = AV.ren _ (.fn _ _)) | exact (rfl : _ = AV.ren _ (.gh _)) | (exact congrArg intV (by assumption)) | (refine congrArg intV ((wr_id (by omega) (by omega)).trans (by omega))) | exact rfl | (simp only [Int.toNat_natCast, Int.toNat_zero, Nat.sub_zero, Nat.zero_add]; first | exact rfl | done))
  have hS := h.S0 hi
  have hC := C_le h x hi
  conv => whnf
  repeat' (first
    | (refine NilG.mk fun bn hbn hbx => ?_; conv => whnf)
    | (refine Both.mk ?_ ?_ <;> conv => whnf)
    | ((first | (refine MkG.box 1 rfl rfl rfl (by decide) ?_) | (refine MkG.box 2 rfl rfl rfl (by decide) ?_) | (refine MkG.box 3 rfl rfl rfl (by decide) ?_) | (refine MkG.row ?_)); conv => whnf)
    | exact trivial
    | (refine Br.mk (fun hb => ?_) (fun hb => ?_) <;> (first | (exfalso; revert hb; decide) | ((try simp only [BL] at hb) <;> (try simp only [DL] at hb) <;> conv => whnf)))
    | (refine And.intro ?_ ?_; (focus (first | exact id | exact rfl | exact trivial | (intro hg; first | exact hg | exact rfl | (simp; done) | (simp at hg ⊢; assumption)) | omega | decide | exact is2_c _ _ _ | exact is1_c _ _ | exact isS_c _ _ | exact isB_c _ _ | exact Nat.le_refl _ | assumption | exact mulLe (by decide) (by omega) | exact mulLe2 (by decide) (by omega) (by omega) | (intros; simp only [BL] at *; omega) | (intros; (try simp only [BL] at *); (try simp only [DL] at *); omega) | (intros; simp only [BL] at *; rw [wr_id (by omega) (by omega)]; omega) | (intro h1 h2; exact Bool.and_eq_true_iff.2 ⟨h1, h2⟩) | exact bef_ok h (by omega) | (intros; simp_all; done))); conv => whnf)
    | (refine Or.inr (And.intro rfl ?_); first | (refine congrArg intV ?_) | (refine congrArg boolV ?_) | (refine tupII ?_ ?_) | (refine tupIII ?_ ?_ ?_) | (refine tupU ?_ ?_ ?_ ?_ ?_) | exact rfl))
  · have hS1 := h.S0 (k := i + 1) (by omega)
    have hp := h.2.1 i (by omega)
    have hc := ct_le h x (k := i) (by omega)
    have hSS : S p (i + 1) = S p i + p i := rfl
    have hCC : S (ct p q x) (i + 1) = S (ct p q x) i + ct p q x i := rfl
    have e1 : IntKind.i64.wrap (S (ct p q x) i + IntKind.i64.wrap (q i * IntKind.i64.wrap (min (max x (S p i)) (IntKind.i64.wrap (S p i + p i)) - S p i))) = S (ct p q x) (i + 1) := by
      rw [wr_id (x := S p i + p i) (by omega) (by omega), wr_id (x := min (max x (S p i)) (S p i + p i) - S p i) (by omega) (by omega)]
      rw [show min (max x (S p i)) (S p i + p i) - S p i = min (max (x - S p i) 0) (p i) by omega, Int.mul_comm]
      rw [show min (max (x - S p i) 0) (p i) * q i = ct p q x i from rfl, wr_id (x := ct p q x i) (by omega) (by omega), hCC]
      exact wr_id (by omega) (by omega)
    refine ⟨i + 1, [0], by omega, by omega, ?_⟩
    repeat' (first | (refine And.intro ?_ ?_) | exact trivial | exact fun _ _ _ => hsc _ _ | (exact congrArg intV (by first | with_reducible rfl | with_reducible assumption)) | exact (rfl : AV.idsLt _ _ = true) | exact (rfl : _ = AV.ren _ (.own _)) | exact (rfl : _ = AV.ren _ (.fn _ _)) | exact (rfl : _ = AV.ren _ (.gh _)) | (exact congrArg intV (by assumption)) | (refine congrArg intV ((wr_id (by omega) (by omega)).trans (by omega))) | exact rfl | (simp only [Int.toNat_natCast, Int.toNat_zero, Nat.sub_zero, Nat.zero_add]; first | exact rfl | done))
  · rw [show i = n by omega]

/-- the price of unit k -/
def U (p q : Nat → Int) (n : Nat) (k : Int) : Int := match ffind (fun i => decide (k < S p (i + 1))) n with
  | some i => q i
  | none => 2000000
theorem U_at {p q : Nat → Int} {n i : Nat} {k : Int} (h0 : ∀ j, j < i → S p (j + 1) ≤ k) (h1 : k < S p (i + 1)) (hi : i < n) : U p q n k = q i := by
  unfold U
  rw [ffind_at (i := i) (fun j hj => by have := h0 j hj; simp; omega) (by simp [h1]) hi]
theorem U_none {p q : Nat → Int} {n : Nat} {k : Int} (h0 : ∀ j, j < n → S p (j + 1) ≤ k) : U p q n k = 2000000 := by
  unfold U
  rw [ffind_none fun j hj => by have := h0 j hj; simp; omega]

theorem offUnit (s : ByteArray) (n : Nat) (p q : Nat → Int) (x : Int) (h : okOff n p q) : Fn1 Try.prog 64 [offV s n p q, intV x] (intV (U p q n x)) := by
  refine fn_of_wpx (O := lex) tab_ok gamO1_ok mixed Try.func64 (by kernel_rfl) rfl rfl rfl (by simp [Try.ntmps64]) (by kernel_rfl) ?_
  have hn := h.1
  conv => whnf
  repeat' (first
    | (refine NilG.mk fun bn hbn hbx => ?_; conv => whnf)
    | (refine Both.mk ?_ ?_ <;> conv => whnf)
    | ((first | (refine MkG.box 1 rfl rfl rfl (by decide) ?_) | (refine MkG.box 2 rfl rfl rfl (by decide) ?_) | (refine MkG.box 3 rfl rfl rfl (by decide) ?_) | (refine MkG.row ?_)); conv => whnf)
    | exact trivial
    | (refine Br.mk (fun hb => ?_) (fun hb => ?_) <;> (first | (exfalso; revert hb; decide) | ((try simp only [BL] at hb) <;> (try simp only [DL] at hb) <;> conv => whnf)))
    | (refine And.intro ?_ ?_; (focus (first | exact id | exact rfl | exact trivial | (intro hg; first | exact hg | exact rfl | (simp; done) | (simp at hg ⊢; assumption)) | omega | decide | exact is2_c _ _ _ | exact is1_c _ _ | exact isS_c _ _ | exact isB_c _ _ | exact Nat.le_refl _ | assumption | exact mulLe (by decide) (by omega) | exact mulLe2 (by decide) (by omega) (by omega) | (intros; simp only [BL] at *; omega) | (intros; (try simp only [BL] at *); (try simp only [DL] at *); omega) | (intros; simp only [BL] at *; rw [wr_id (by omega) (by omega)]; omega) | (intro h1 h2; exact Bool.and_eq_true_iff.2 ⟨h1, h2⟩) | (intros; simp_all; done))); conv => whnf)
    | (refine Or.inr (And.intro rfl ?_); first | (refine congrArg intV ?_) | (refine congrArg boolV ?_) | (refine tupII ?_ ?_) | (refine tupIII ?_ ?_ ?_) | (refine tupU ?_ ?_ ?_ ?_ ?_) | exact rfl))
  refine sem_loop tab_ok gamO1_ok mixed (by kernel_rfl) (O := lex) (fun i : Nat => ⟨[(10, intV i), (9, intV n), (8, .c (.sl 2 n (c2 p q))), (1, intV x), (2, .lp 0 0)], [.box [strV s, .c (.sl 2 n (c2 p q))]]⟩) (fun i => i ≤ n ∧ ∀ j, j < i → S p (j + 1) ≤ x) (fun i => n - i) ⟨0, [0], ⟨Nat.zero_le _, fun j hj => absurd hj (Nat.not_lt_zero _)⟩, ?_⟩ fun i hi => ?_
  · repeat' (first | (refine And.intro ?_ ?_) | exact trivial | exact fun _ _ _ => hsc _ _ | (exact congrArg intV (by first | with_reducible rfl | with_reducible assumption)) | exact (rfl : AV.idsLt _ _ = true) | exact (rfl : _ = AV.ren _ (.own _)) | exact (rfl : _ = AV.ren _ (.fn _ _)) | exact (rfl : _ = AV.ren _ (.gh _)) | (exact congrArg intV (by assumption)) | (refine congrArg intV ((wr_id (by omega) (by omega)).trans (by omega))) | exact rfl | (simp only [Int.toNat_natCast, Int.toNat_zero, Nat.sub_zero, Nat.zero_add]; first | exact rfl | done))
  have hS := h.S0 hi.1
  conv => whnf
  repeat' (first
    | (refine NilG.mk fun bn hbn hbx => ?_; conv => whnf)
    | (refine Both.mk ?_ ?_ <;> conv => whnf)
    | ((first | (refine MkG.box 1 rfl rfl rfl (by decide) ?_) | (refine MkG.box 2 rfl rfl rfl (by decide) ?_) | (refine MkG.box 3 rfl rfl rfl (by decide) ?_) | (refine MkG.row ?_)); conv => whnf)
    | exact trivial
    | (refine Br.mk (fun hb => ?_) (fun hb => ?_) <;> (first | (exfalso; revert hb; decide) | ((try simp only [BL] at hb) <;> (try simp only [DL] at hb) <;> conv => whnf)))
    | (refine And.intro ?_ ?_; (focus (first | exact id | exact rfl | exact trivial | (intro hg; first | exact hg | exact rfl | (simp; done) | (simp at hg ⊢; assumption)) | omega | decide | exact is2_c _ _ _ | exact is1_c _ _ | exact isS_c _ _ | exact isB_c _ _ | exact Nat.le_refl _ | assumption | exact mulLe (by decide) (by omega) | exact mulLe2 (by decide) (by omega) (by omega) | (intros; simp only [BL] at *; omega) | (intros; (try simp only [BL] at *); (try simp only [DL] at *); omega) | (intros; simp only [BL] at *; rw [wr_id (by omega) (by omega)]; omega) | (intro h1 h2; exact Bool.and_eq_true_iff.2 ⟨h1, h2⟩) | exact bef_ok h (by omega) | (intros; simp_all; done))); conv => whnf)
    | (refine Or.inr (And.intro rfl ?_); first | (refine congrArg intV ?_) | (refine congrArg boolV ?_) | (refine tupII ?_ ?_) | (refine tupIII ?_ ?_ ?_) | (refine tupU ?_ ?_ ?_ ?_ ?_) | exact rfl))
  · have hS1 := h.S0 (k := i + 1) (by omega)
    have hp := h.2.1 i (by omega)
    have hSS : S p (i + 1) = S p i + p i := rfl
    rw [wr_id (by omega) (by omega)] at hb
    exact (U_at hi.2 (by omega) (by omega)).symm
  · have hS1 := h.S0 (k := i + 1) (by omega)
    have hp := h.2.1 i (by omega)
    have hSS : S p (i + 1) = S p i + p i := rfl
    rw [wr_id (by omega) (by omega)] at hb
    refine ⟨i + 1, [0], ⟨by omega, fun j hj => ?_⟩, by omega, ?_⟩
    · rcases Nat.lt_succ_iff_lt_or_eq.1 hj with hlt | rfl
      · exact hi.2 j hlt
      · omega
    · repeat' (first | (refine And.intro ?_ ?_) | exact trivial | exact fun _ _ _ => hsc _ _ | (exact congrArg intV (by first | with_reducible rfl | with_reducible assumption)) | exact (rfl : AV.idsLt _ _ = true) | exact (rfl : _ = AV.ren _ (.own _)) | exact (rfl : _ = AV.ren _ (.fn _ _)) | exact (rfl : _ = AV.ren _ (.gh _)) | (exact congrArg intV (by assumption)) | (refine congrArg intV ((wr_id (by omega) (by omega)).trans (by omega))) | exact rfl | (simp only [Int.toNat_natCast, Int.toNat_zero, Nat.sub_zero, Nat.zero_add]; first | exact rfl | done))
  · rw [U_none fun j hj => hi.2 j (by omega)]

def gamO2 : Gam := fun f => match f with
  | 107 => some (sO (fun s n _ _ => s.size ≤ maxLen ∧ n ≤ maxLen) fun s n p q => intV (offE s n p q))
  | 108 => some (sO (fun _ n p q => okOff n p q) fun _ n p _ => intV (S p n))
  | 102 => some (sOi (fun _ n p q x => okOff n p q ∧ 0 ≤ x ∧ x ≤ 2000000) fun _ n p q x => intV (S (ct p q x) n))
  | _ => none
theorem gamO2_ok : GOk Try.prog gamO2 := fun f g h => by
  unfold gamO2 at h
  split at h
  · injection h with h; subst h; exact sO_ok fun s n p q hp => offCheck s n p q hp.1 hp.2
  · injection h with h; subst h; exact sO_ok offSum
  · injection h with h; subst h; exact sOi_ok offCost1
  · cases h

/-- the error of an offer and a power -/
def offXE (s : ByteArray) (n : Nat) (p q : Nat → Int) (x : Int) : Int := if offE s n p q ≠ 0 then offE s n p q else if x < 0 ∨ S p n < x then 4 else 0
theorem offXE_zero {s : ByteArray} {n : Nat} {p q : Nat → Int} {x : Int} (h : offXE s n p q x = 0) : offE s n p q = 0 ∧ okOff n p q ∧ 0 ≤ x ∧ x ≤ S p n ∧ S p n ≤ 100000 := by
  unfold offXE at h
  split at h
  · rename_i hn; exact absurd h hn
  · rename_i hn
    have hz : offE s n p q = 0 := by simpa using hn
    have ho := (offE_zero hz).2
    have := ho.S0 (Nat.le_refl n)
    split at h
    · cases h
    · exact ⟨hz, ho, by omega, by omega, by omega⟩
/-- the error of an offer and a price -/
def offPE (s : ByteArray) (n : Nat) (p q : Nat → Int) (t : Int) : Int := if offE s n p q ≠ 0 then offE s n p q else if t < -2000000 ∨ 2000000 < t then 4 else 0
theorem offPE_zero {s : ByteArray} {n : Nat} {p q : Nat → Int} {t : Int} (h : offPE s n p q t = 0) : offE s n p q = 0 ∧ okOff n p q ∧ -2000000 ≤ t ∧ t ≤ 2000000 := by
  unfold offPE at h
  split at h
  · rename_i hn; exact absurd h hn
  · rename_i hn
    have hz : offE s n p q = 0 := by simpa using hn
    have ho := (offE_zero hz).2
    split at h
    · cases h
    · exact ⟨hz, ho, by omega, by omega⟩

theorem offcheck (s : ByteArray) (n : Nat) (p q : Nat → Int) (x : Int) (hs : s.size ≤ maxLen) (hn : n ≤ maxLen) : Fn1 Try.prog 101 [offV s n p q, intV x] (intV (offXE s n p q x)) := by
  refine fn_of_wpx (O := lex) tab_ok gamO2_ok mixed Try.func101 (by kernel_rfl) rfl rfl rfl (by simp [Try.ntmps101]) (by kernel_rfl) ?_
  conv => whnf
  repeat' (first
    | (refine NilG.mk fun bn hbn hbx => ?_; conv => whnf)
    | (refine Both.mk ?_ ?_ <;> conv => whnf)
    | ((first | (refine MkG.box 1 rfl rfl rfl (by decide) ?_) | (refine MkG.box 2 rfl rfl rfl (by decide) ?_) | (refine MkG.box 3 rfl rfl rfl (by decide) ?_) | (refine MkG.row ?_)); conv => whnf)
    | exact trivial
    | (refine Br.mk (fun hb => ?_) (fun hb => ?_) <;> (first | (exfalso; revert hb; decide) | ((try simp only [BL] at hb) <;> (try simp only [DL] at hb) <;> conv => whnf)))
    | (refine And.intro ?_ ?_; (focus (first | exact id | exact rfl | exact trivial | (intro hg; first | exact hg | exact rfl | (simp; done) | (simp at hg ⊢; assumption)) | omega | decide | exact is2_c _ _ _ | exact is1_c _ _ | exact isS_c _ _ | exact isB_c _ _ | exact Nat.le_refl _ | assumption | exact mulLe (by decide) (by omega) | exact mulLe2 (by decide) (by omega) (by omega) | (intros; simp only [BL] at *; omega) | (intros; (try simp only [BL] at *); (try simp only [DL] at *); omega) | (intros; simp only [BL] at *; rw [wr_id (by omega) (by omega)]; omega) | (intro h1 h2; exact Bool.and_eq_true_iff.2 ⟨h1, h2⟩) | first | exact ⟨is2_c _ _ _, hs, hn⟩ | exact ⟨is2_c _ _ _, (offE_zero hb).2⟩ | exact fun _ => ⟨is2_c _ _ _, (offE_zero hb).2⟩ | (intros; simp_all; done))); conv => whnf)
    | (refine Or.inr (And.intro rfl ?_); first | (refine congrArg intV ?_) | (refine congrArg boolV ?_) | (refine tupII ?_ ?_) | (refine tupIII ?_ ?_ ?_) | (refine tupU ?_ ?_ ?_ ?_ ?_) | exact rfl))
  · simp only [DL]; simp [offXE, hb]
  · rename_i h1; simp only [offXE, h1]; rw [if_neg (by simp), if_pos (by omega)]
  · rename_i h1; simp only [offXE, h1]; rw [if_neg (by simp), if_neg (by omega)]

theorem offcheckPrice (s : ByteArray) (n : Nat) (p q : Nat → Int) (x : Int) (hs : s.size ≤ maxLen) (hn : n ≤ maxLen) : Fn1 Try.prog 111 [offV s n p q, intV x] (intV (offPE s n p q x)) := by
  refine fn_of_wpx (O := lex) tab_ok gamO2_ok mixed Try.func111 (by kernel_rfl) rfl rfl rfl (by simp [Try.ntmps111]) (by kernel_rfl) ?_
  conv => whnf
  repeat' (first
    | (refine NilG.mk fun bn hbn hbx => ?_; conv => whnf)
    | (refine Both.mk ?_ ?_ <;> conv => whnf)
    | ((first | (refine MkG.box 1 rfl rfl rfl (by decide) ?_) | (refine MkG.box 2 rfl rfl rfl (by decide) ?_) | (refine MkG.box 3 rfl rfl rfl (by decide) ?_) | (refine MkG.row ?_)); conv => whnf)
    | exact trivial
    | (refine Br.mk (fun hb => ?_) (fun hb => ?_) <;> (first | (exfalso; revert hb; decide) | ((try simp only [BL] at hb) <;> (try simp only [DL] at hb) <;> conv => whnf)))
    | (refine And.intro ?_ ?_; (focus (first | exact id | exact rfl | exact trivial | (intro hg; first | exact hg | exact rfl | (simp; done) | (simp at hg ⊢; assumption)) | omega | decide | exact is2_c _ _ _ | exact is1_c _ _ | exact isS_c _ _ | exact isB_c _ _ | exact Nat.le_refl _ | assumption | exact mulLe (by decide) (by omega) | exact mulLe2 (by decide) (by omega) (by omega) | (intros; simp only [BL] at *; omega) | (intros; (try simp only [BL] at *); (try simp only [DL] at *); omega) | (intros; simp only [BL] at *; rw [wr_id (by omega) (by omega)]; omega) | (intro h1 h2; exact Bool.and_eq_true_iff.2 ⟨h1, h2⟩) | first | exact ⟨is2_c _ _ _, hs, hn⟩ | (intros; simp_all; done))); conv => whnf)
    | (refine Or.inr (And.intro rfl ?_); first | (refine congrArg intV ?_) | (refine congrArg boolV ?_) | (refine tupII ?_ ?_) | (refine tupIII ?_ ?_ ?_) | (refine tupU ?_ ?_ ?_ ?_ ?_) | exact rfl))
  · simp only [DL]; simp [offPE, hb]
  · rename_i h1; simp only [offPE, h1]; rw [if_neg (by simp), if_pos (by omega)]
  · rename_i h1; simp only [offPE, h1]; rw [if_neg (by simp), if_neg (by omega)]

def gamO3 : Gam := fun f => match f with
  | 101 => some (sOi (fun s n _ _ _ => s.size ≤ maxLen ∧ n ≤ maxLen) fun s n p q x => intV (offXE s n p q x))
  | 111 => some (sOi (fun s n _ _ _ => s.size ≤ maxLen ∧ n ≤ maxLen) fun s n p q x => intV (offPE s n p q x))
  | 102 => some (sOi (fun _ n p q x => okOff n p q ∧ 0 ≤ x ∧ x ≤ 2000000) fun _ n p q x => intV (S (ct p q x) n))
  | _ => none
theorem gamO3_ok : GOk Try.prog gamO3 := fun f g h => by
  unfold gamO3 at h
  split at h
  · injection h with h; subst h; exact sOi_ok fun s n p q x hp => offcheck s n p q x hp.1 hp.2
  · injection h with h; subst h; exact sOi_ok fun s n p q x hp => offcheckPrice s n p q x hp.1 hp.2
  · injection h with h; subst h; exact sOi_ok offCost1
  · cases h

theorem offCost (s : ByteArray) (n : Nat) (p q : Nat → Int) (x : Int) (hs : s.size ≤ maxLen) (hn : n ≤ maxLen) : Fn1 Try.prog 68 [offV s n p q, intV x] (.tup [intV (if offXE s n p q x = 0 then S (ct p q x) n else 0), intV (offXE s n p q x)]) := by
  refine fn_of_wpx (O := lex) tab_ok gamO3_ok mixed Try.func68 (by kernel_rfl) rfl rfl rfl (by simp [Try.ntmps68]) (by kernel_rfl) ?_
  conv => whnf
  repeat' (first
    | (refine NilG.mk fun bn hbn hbx => ?_; conv => whnf)
    | (refine Both.mk ?_ ?_ <;> conv => whnf)
    | ((first | (refine MkG.box 1 rfl rfl rfl (by decide) ?_) | (refine MkG.box 2 rfl rfl rfl (by decide) ?_) | (refine MkG.box 3 rfl rfl rfl (by decide) ?_) | (refine MkG.row ?_)); conv => whnf)
    | exact trivial
    | (refine Br.mk (fun hb => ?_) (fun hb => ?_) <;> (first | (exfalso; revert hb; decide) | ((try simp only [BL] at hb) <;> (try simp only [DL] at hb) <;> conv => whnf)))
    | (refine And.intro ?_ ?_; (focus (first | exact id | exact rfl | exact trivial | (intro hg; first | exact hg | exact rfl | (simp; done) | (simp at hg ⊢; assumption)) | omega | decide | exact is2_c _ _ _ | exact is1_c _ _ | exact isS_c _ _ | exact isB_c _ _ | exact Nat.le_refl _ | assumption | exact mulLe (by decide) (by omega) | exact mulLe2 (by decide) (by omega) (by omega) | (intros; simp only [BL] at *; omega) | (intros; (try simp only [BL] at *); (try simp only [DL] at *); omega) | (intros; simp only [BL] at *; rw [wr_id (by omega) (by omega)]; omega) | (intro h1 h2; exact Bool.and_eq_true_iff.2 ⟨h1, h2⟩) | first | exact ⟨is2_c _ _ _, hs, hn⟩ | (have := offXE_zero hb; exact ⟨is2_c _ _ _, this.2.1, by omega, by omega⟩) | (intros; simp_all; done))); conv => whnf)
    | (refine Or.inr (And.intro rfl ?_); first | (refine congrArg intV ?_) | (refine congrArg boolV ?_) | (refine tupII ?_ ?_) | (refine tupIII ?_ ?_ ?_) | (refine tupU ?_ ?_ ?_ ?_ ?_) | exact rfl))
  all_goals first | rfl | (simp only [DL]; simp_all) | simp_all

/-- the powers of the steps below a price; up to a price -/
def SP1 (p q : Nat → Int) (t : Int) (k : Nat) : Int := if q k < t then p k else 0
def SP2 (p q : Nat → Int) (t : Int) (k : Nat) : Int := if q k ≤ t then p k else 0

theorem offSupply (s : ByteArray) (n : Nat) (p q : Nat → Int) (t : Int) (hs : s.size ≤ maxLen) (hn : n ≤ maxLen) : Fn1 Try.prog 88 [offV s n p q, intV t] (.tup [intV (if offPE s n p q t = 0 then S (SP1 p q t) n else 0), intV (if offPE s n p q t = 0 then S (SP2 p q t) n else 0), intV (offPE s n p q t)]) := by
  refine fn_of_wpx (O := lex) tab_ok gamO3_ok mixed Try.func88 (by kernel_rfl) rfl rfl rfl (by simp [Try.ntmps88]) (by kernel_rfl) ?_
  conv => whnf
  repeat' (first
    | (refine NilG.mk fun bn hbn hbx => ?_; conv => whnf)
    | (refine Both.mk ?_ ?_ <;> conv => whnf)
    | ((first | (refine MkG.box 1 rfl rfl rfl (by decide) ?_) | (refine MkG.box 2 rfl rfl rfl (by decide) ?_) | (refine MkG.box 3 rfl rfl rfl (by decide) ?_) | (refine MkG.row ?_)); conv => whnf)
    | exact trivial
    | (refine Br.mk (fun hb => ?_) (fun hb => ?_) <;> (first | (exfalso; revert hb; decide) | ((try simp only [BL] at hb) <;> (try simp only [DL] at hb) <;> conv => whnf)))
    | (refine And.intro ?_ ?_; (focus (first | exact id | exact rfl | exact trivial | (intro hg; first | exact hg | exact rfl | (simp; done) | (simp at hg ⊢; assumption)) | omega | decide | exact is2_c _ _ _ | exact is1_c _ _ | exact isS_c _ _ | exact isB_c _ _ | exact Nat.le_refl _ | assumption | exact mulLe (by decide) (by omega) | exact mulLe2 (by decide) (by omega) (by omega) | (intros; simp only [BL] at *; omega) | (intros; (try simp only [BL] at *); (try simp only [DL] at *); omega) | (intros; simp only [BL] at *; rw [wr_id (by omega) (by omega)]; omega) | (intro h1 h2; exact Bool.and_eq_true_iff.2 ⟨h1, h2⟩) | first | exact ⟨is2_c _ _ _, hs, hn⟩ | (intros; simp_all; done))); conv => whnf)
    | (refine Or.inr (And.intro rfl ?_); first | (refine congrArg intV ?_) | (refine congrArg boolV ?_) | (refine tupII ?_ ?_) | (refine tupIII ?_ ?_ ?_) | (refine tupU ?_ ?_ ?_ ?_ ?_) | exact rfl))
  · simp [hb]
  · simp [hb]
  · rfl
  rw [hb]
  obtain ⟨_, h, ht⟩ := offPE_zero hb
  have hn12 := h.1
  refine sem_loop tab_ok gamO3_ok mixed (by kernel_rfl) (O := lex) (fun i : Nat => ⟨[(21, intV i), (20, intV n), (19, .c (.sl 2 n (c2 p q))), (8, intV (S (SP1 p q t) i)), (9, intV (S (SP2 p q t) i)), (1, intV t)], []⟩) (fun i => i ≤ n) (fun i => n - i) ⟨0, [], Nat.zero_le _, ?_⟩ fun i hi => ?_
  · repeat' (first | (refine And.intro ?_ ?_) | exact trivial | exact fun _ _ _ => hsc _ _ | (exact congrArg intV (by first | with_reducible rfl | with_reducible assumption)) | exact (rfl : AV.idsLt _ _ = true) | exact (rfl : _ = AV.ren _ (.own _)) | exact (rfl : _ = AV.ren _ (.fn _ _)) | exact (rfl : _ = AV.ren _ (.gh _)) | (exact congrArg intV (by assumption)) | (refine congrArg intV ((wr_id (by omega) (by omega)).trans (by omega))) | exact rfl | (simp only [Int.toNat_natCast, Int.toNat_zero, Nat.sub_zero, Nat.zero_add]; first | exact rfl | done))
  have h1 := S_le (p := SP1 p q t) (a := 0) (b := 100000) (k := i) fun j hj => by
    have := h.2.1 j (by omega)
    unfold SP1
    split <;> omega
  have h2 := S_le (p := SP2 p q t) (a := 0) (b := 100000) (k := i) fun j hj => by
    have := h.2.1 j (by omega)
    unfold SP2
    split <;> omega
  have hnext : i < n → 1 ≤ p i ∧ p i ≤ 100000 := fun hlt => by
    have := h.2.1 i hlt
    omega
  conv => whnf
  repeat' (first
    | (refine NilG.mk fun bn hbn hbx => ?_; conv => whnf)
    | (refine Both.mk ?_ ?_ <;> conv => whnf)
    | ((first | (refine MkG.box 1 rfl rfl rfl (by decide) ?_) | (refine MkG.box 2 rfl rfl rfl (by decide) ?_) | (refine MkG.box 3 rfl rfl rfl (by decide) ?_) | (refine MkG.row ?_)); conv => whnf)
    | exact trivial
    | (refine Br.mk (fun hb => ?_) (fun hb => ?_) <;> (first | (exfalso; revert hb; decide) | ((try simp only [BL] at hb) <;> (try simp only [DL] at hb) <;> conv => whnf)))
    | (refine And.intro ?_ ?_; (focus (first | exact id | exact rfl | exact trivial | (intro hg; first | exact hg | exact rfl | (simp; done) | (simp at hg ⊢; assumption)) | omega | decide | exact is2_c _ _ _ | exact is1_c _ _ | exact isS_c _ _ | exact isB_c _ _ | exact Nat.le_refl _ | assumption | exact mulLe (by decide) (by omega) | exact mulLe2 (by decide) (by omega) (by omega) | (intros; simp only [BL] at *; omega) | (intros; (try simp only [BL] at *); (try simp only [DL] at *); omega) | (intros; simp only [BL] at *; rw [wr_id (by omega) (by omega)]; omega) | (intro h1 h2; exact Bool.and_eq_true_iff.2 ⟨h1, h2⟩) | (intros; simp_all; done))); conv => whnf)
    | (refine Or.inr (And.intro rfl ?_); first | (refine congrArg intV ?_) | (refine congrArg boolV ?_) | (refine tupII ?_ ?_) | (refine tupIII ?_ ?_ ?_) | (refine tupU ?_ ?_ ?_ ?_ ?_) | exact rfl))
  · have hq := hnext (by omega)
    have a1 : IntKind.i64.wrap (S (SP1 p q t) i + p i) = S (SP1 p q t) (i + 1) := by
      rw [wr_id (by omega) (by omega)]; simp only [S, SP1]; rw [if_pos (by omega)]
    have a2 : IntKind.i64.wrap (S (SP2 p q t) i + p i) = S (SP2 p q t) (i + 1) := by
      rw [wr_id (by omega) (by omega)]; simp only [S, SP2]; rw [if_pos (by omega)]
    refine ⟨i + 1, [], by omega, by omega, ?_⟩
    repeat' (first | (refine And.intro ?_ ?_) | exact trivial | exact fun _ _ _ => hsc _ _ | (exact congrArg intV (by first | with_reducible rfl | with_reducible assumption)) | exact (rfl : AV.idsLt _ _ = true) | exact (rfl : _ = AV.ren _ (.own _)) | exact (rfl : _ = AV.ren _ (.fn _ _)) | exact (rfl : _ = AV.ren _ (.gh _)) | (exact congrArg intV (by assumption)) | (refine congrArg intV ((wr_id (by omega) (by omega)).trans (by omega))) | exact rfl | (simp only [Int.toNat_natCast, Int.toNat_zero, Nat.sub_zero, Nat.zero_add]; first | exact rfl | done))
  · have hq := hnext (by omega)
    have a1 : IntKind.i64.wrap (S (SP1 p q t) i + p i) = S (SP1 p q t) (i + 1) := by
      rw [wr_id (by omega) (by omega)]; simp only [S, SP1]; rw [if_pos (by omega)]
    have a2 : S (SP2 p q t) i = S (SP2 p q t) (i + 1) := by
      simp only [S, SP2]; rw [if_neg (by omega), Int.add_zero]
    refine ⟨i + 1, [], by omega, by omega, ?_⟩
    repeat' (first | (refine And.intro ?_ ?_) | exact trivial | exact fun _ _ _ => hsc _ _ | (exact congrArg intV (by first | with_reducible rfl | with_reducible assumption)) | exact (rfl : AV.idsLt _ _ = true) | exact (rfl : _ = AV.ren _ (.own _)) | exact (rfl : _ = AV.ren _ (.fn _ _)) | exact (rfl : _ = AV.ren _ (.gh _)) | (exact congrArg intV (by assumption)) | (refine congrArg intV ((wr_id (by omega) (by omega)).trans (by omega))) | exact rfl | (simp only [Int.toNat_natCast, Int.toNat_zero, Nat.sub_zero, Nat.zero_add]; first | exact rfl | done))
  · have hq := hnext (by omega)
    have a1 : S (SP1 p q t) i = S (SP1 p q t) (i + 1) := by
      simp only [S, SP1]; rw [if_neg (by omega), Int.add_zero]
    have a2 : IntKind.i64.wrap (S (SP2 p q t) i + p i) = S (SP2 p q t) (i + 1) := by
      rw [wr_id (by omega) (by omega)]; simp only [S, SP2]; rw [if_pos (by omega)]
    refine ⟨i + 1, [], by omega, by omega, ?_⟩
    repeat' (first | (refine And.intro ?_ ?_) | exact trivial | exact fun _ _ _ => hsc _ _ | (exact congrArg intV (by first | with_reducible rfl | with_reducible assumption)) | exact (rfl : AV.idsLt _ _ = true) | exact (rfl : _ = AV.ren _ (.own _)) | exact (rfl : _ = AV.ren _ (.fn _ _)) | exact (rfl : _ = AV.ren _ (.gh _)) | (exact congrArg intV (by assumption)) | (refine congrArg intV ((wr_id (by omega) (by omega)).trans (by omega))) | exact rfl | (simp only [Int.toNat_natCast, Int.toNat_zero, Nat.sub_zero, Nat.zero_add]; first | exact rfl | done))
  · have hq := hnext (by omega)
    have a1 : S (SP1 p q t) i = S (SP1 p q t) (i + 1) := by
      simp only [S, SP1]; rw [if_neg (by omega), Int.add_zero]
    have a2 : S (SP2 p q t) i = S (SP2 p q t) (i + 1) := by
      simp only [S, SP2]; rw [if_neg (by omega), Int.add_zero]
    refine ⟨i + 1, [], by omega, by omega, ?_⟩
    repeat' (first | (refine And.intro ?_ ?_) | exact trivial | exact fun _ _ _ => hsc _ _ | (exact congrArg intV (by first | with_reducible rfl | with_reducible assumption)) | exact (rfl : AV.idsLt _ _ = true) | exact (rfl : _ = AV.ren _ (.own _)) | exact (rfl : _ = AV.ren _ (.fn _ _)) | exact (rfl : _ = AV.ren _ (.gh _)) | (exact congrArg intV (by assumption)) | (refine congrArg intV ((wr_id (by omega) (by omega)).trans (by omega))) | exact rfl | (simp only [Int.toNat_natCast, Int.toNat_zero, Nat.sub_zero, Nat.zero_add]; first | exact rfl | done))
  · obtain rfl : i = n := by omega
    rfl
  · obtain rfl : i = n := by omega
    rfl
  · rfl

theorem SP1_le {n : Nat} {p q : Nat → Int} (h : okOff n p q) (t : Int) : 0 ≤ S (SP1 p q t) n ∧ S (SP1 p q t) n ≤ 100000 := by
  have key : ∀ k, k ≤ n → 0 ≤ S (SP1 p q t) k ∧ S (SP1 p q t) k ≤ S p k := by
    intro k
    induction k with
    | zero => intro _; simp [S]
    | succ k ih =>
      intro hk
      have := ih (by omega)
      have := h.2.1 k (by omega)
      simp only [S, SP1]
      split <;> omega
  have := key n (Nat.le_refl n)
  have := h.2.2.2 n (Nat.le_refl n)
  omega

end Go.Proofs.Ytemfikdogdadnaa
