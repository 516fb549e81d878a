/-
  Convex functions: their check, their values, and the references' forms of these.
-/
import Derived.Test.YtkkkldhilofgmaaOff2
namespace Go.Proofs.Ytkkkldhilofgmaa
open Go.RowKit

abbrev cxV (lo v : Int) (n : Nat) (p q : Nat → Int) : AV := .agg [intV lo, intV v, .c (.sl 2 n (c2 p q))]
def pq (p q : Nat → Int) (k : Nat) : Int := p k * q k
/-- the error of piece k; of a function -/
def pcE (lo v : Int) (p q : Nat → Int) (k : Nat) : Int :=
  if p k < 1 ∨ 2000000 < p k ∨ q k < -10000000 ∨ 10000000 < q k then 4 else if 0 < k ∧ q k ≤ q (k - 1) then 3 else if 1000000 < lo + S p (k + 1) ∨ v + S (pq p q) (k + 1) < -1000000000000000 ∨ 1000000000000000 < v + S (pq p q) (k + 1) then 4 else 0
def cxE (lo v : Int) (n : Nat) (p q : Nat → Int) : Int :=
  if 64 < n then 2 else if (lo < -1000000 ∨ 1000000 < lo) ∨ v < -1000000000000000 ∨ 1000000000000000 < v then 4 else fst (pcE lo v p q) n
def okCx (lo v : Int) (n : Nat) (p q : Nat → Int) : Prop :=
  n ≤ 64 ∧ -1000000 ≤ lo ∧ lo ≤ 1000000 ∧ -1000000000000000 ≤ v ∧ v ≤ 1000000000000000 ∧ (∀ k, k < n → 1 ≤ p k ∧ p k ≤ 2000000 ∧ -10000000 ≤ q k ∧ q k ≤ 10000000) ∧ (∀ k, k + 1 < n → q k < q (k + 1)) ∧
  ∀ k, k ≤ n → lo + S p k ≤ 1000000 ∧ -1000000000000000 ≤ v + S (pq p q) k ∧ v + S (pq p q) k ≤ 1000000000000000

theorem pcE_zero {lo v : Int} {p q : Nat → Int} {k : Nat} (h : pcE lo v p q k = 0) : (1 ≤ p k ∧ p k ≤ 2000000 ∧ -10000000 ≤ q k ∧ q k ≤ 10000000) ∧ (0 < k → q (k - 1) < q k) ∧ lo + S p (k + 1) ≤ 1000000 ∧ -1000000000000000 ≤ v + S (pq p q) (k + 1) ∧ v + S (pq p q) (k + 1) ≤ 1000000000000000 := by
  unfold pcE at h
  split at h
  · cases h
  · split at h
    · cases h
    · split at h
      · cases h
      · omega
theorem cxE_zero {lo v : Int} {n : Nat} {p q : Nat → Int} (h : cxE lo v n p q = 0) : okCx lo v n p q := by
  unfold cxE at h
  split at h
  · cases h
  · split at h
    · cases h
    · refine ⟨by omega, by omega, by omega, by omega, by omega, fun k hk => (pcE_zero (fst_zero h k hk)).1, fun k hk => ?_, fun k hk => ?_⟩
      · have := (pcE_zero (fst_zero h (k + 1) hk)).2.1 (by omega)
        simpa using this
      · cases k with
        | zero => simp only [S]; omega
        | succ k => exact (pcE_zero (fst_zero h k (by omega))).2.2

abbrev outM (n m : Int) : Bool := !inB n (-m) m
theorem cxout (n m : Int) (hm : 0 ≤ m ∧ m ≤ 1000000000000000000) : Fn1 Try.prog 120 [intV n, intV m] (boolV (outM n m)) := by
  refine fn_of_wpx (O := lex) tab_ok (Γ := fun _ => none) (fun _ _ h => by cases h) mixed Try.func120 (by kernel_rfl) rfl rfl rfl (by simp [Try.ntmps120]) (by kernel_rfl) ?_
  have e1 : IntKind.i64.wrap (0 - m) = 0 - m := wr_id (by omega) (by omega)
  conv => whnf
  repeat' (first
    | (refine NilG.mk fun bn hbn hbx => ?_; conv => whnf)
    | (refine Both.mk ?_ ?_ <;> conv => whnf)
    | exact trivial
    | (refine Br.mk (fun hb => ?_) (fun hb => ?_) <;> (first | (exfalso; revert hb; decide) | ((try simp only [BL] at hb) <;> (try simp only [DL] at hb) <;> conv => whnf)))
    | (refine And.intro ?_ ?_; (focus (first | exact id | exact rfl | exact trivial | (intro hg; first | exact hg | exact rfl | (simp; done) | (simp at hg ⊢; assumption)) | omega | decide | exact is2_c _ _ _ | exact is1_c _ _ | exact isS_c _ _ | exact isB_c _ _ | exact Nat.le_refl _ | assumption | exact mulLe (by decide) (by omega) | exact mulLe2 (by decide) (by omega) (by omega) | (intros; simp only [BL] at *; omega) | (intros; (try simp only [BL] at *); (try simp only [DL] at *); omega) | (intros; simp only [BL] at *; rw [wr_id (by omega) (by omega)]; omega) | (intro h1 h2; exact Bool.and_eq_true_iff.2 ⟨h1, h2⟩) | (intros; simp_all; done))); conv => whnf)
    | (refine Or.inr (And.intro rfl ?_); first | (refine congrArg intV ?_) | (refine congrArg boolV ?_) | (refine tupII ?_ ?_) | (refine tupIII ?_ ?_ ?_) | (refine tupU ?_ ?_ ?_ ?_ ?_) | exact rfl))
  · rw [e1]
    rw [Bool.eq_iff_iff]
    simp only [BL]
    omega
def s2i (P : Int → Int → Prop) (f : Int → Int → Bool) : List AV → Sd × AV
  | [.c (.v (.int .i64 a)), .c (.v (.int .i64 b))] => (.p (P a b), boolV (f a b))
  | _ => (.p False, .top)
theorem s2i_ok {f : FuncId} {P} {g : Int → Int → Bool} (h : ∀ a b, P a b → Fn1 Try.prog f [intV a, intV b] (boolV (g a b))) : ∀ args, (s2i P g args).1.ok → (s2i P g args).2.exact.isSome = true → Fn1 Try.prog f args (s2i P g args).2 := fun args hs _ => by
  unfold s2i at hs ⊢
  split at hs
  · exact h _ _ hs
  · exact hs.elim
def sCx (P : Int → Int → Nat → (Nat → Int) → (Nat → Int) → Prop) (g : Int → Int → Nat → (Nat → Int) → (Nat → Int) → AV) : List AV → Sd × AV
  | [.agg [.c (.v (.int .i64 lo)), .c (.v (.int .i64 v)), .c (.sl 2 n f)]] => (.p (is2 n f ∧ P lo v n (d0 f) (d1 f)), g lo v n (d0 f) (d1 f))
  | _ => (.p False, .top)
theorem cxV_le {lo v : Int} {n : Nat} {f : Nat → Nat → L} (h : is2 n f) : Le1 (.agg [intV lo, intV v, .c (.sl 2 n f)]) (cxV lo v n (d0 f) (d1 f)) :=
  Le1.agg (Le.cons (Le1.refl _) (Le.cons (Le1.refl _) (Le.cons (Le1.sl h) Le.nil)))
theorem sCx_ok {f : FuncId} {P} {g} (h : ∀ lo v n p q, P lo v n p q → Fn1 Try.prog f [cxV lo v n p q] (g lo v n p q)) : ∀ args, (sCx P g args).1.ok → (sCx P g args).2.exact.isSome = true → Fn1 Try.prog f args (sCx P g args).2 := fun args hs _ => by
  unfold sCx at hs ⊢
  split at hs
  · exact (h _ _ _ _ _ hs.2).le (Le.cons (cxV_le hs.1) Le.nil)
  · exact hs.elim
def sCxi (P : Int → Int → Nat → (Nat → Int) → (Nat → Int) → Int → Prop) (g : Int → Int → Nat → (Nat → Int) → (Nat → Int) → Int → AV) : List AV → Sd × AV
  | [.agg [.c (.v (.int .i64 lo)), .c (.v (.int .i64 v)), .c (.sl 2 n f)], .c (.v (.int .i64 x))] => (.p (is2 n f ∧ P lo v n (d0 f) (d1 f) x), g lo v n (d0 f) (d1 f) x)
  | _ => (.p False, .top)
theorem sCxi_ok {f : FuncId} {P} {g} (h : ∀ lo v n p q x, P lo v n p q x → Fn1 Try.prog f [cxV lo v n p q, intV x] (g lo v n p q x)) : ∀ args, (sCxi P g args).1.ok → (sCxi P g args).2.exact.isSome = true → Fn1 Try.prog f args (sCxi P g args).2 := fun args hs _ => by
  unfold sCxi at hs ⊢
  split at hs
  · exact (h _ _ _ _ _ _ hs.2).le (Le.cons (cxV_le hs.1) (Le.cons (Le1.refl _) Le.nil))
  · exact hs.elim

def gamX1 : Gam := fun f => match f with
  | 120 => some (s2i (fun _ m => 0 ≤ m ∧ m ≤ 1000000000000000000) outM)
  | 27 => some (s3 inB)
  | _ => none
theorem gamX1_ok : GOk Try.prog gamX1 := fun f g h => by
  unfold gamX1 at h
  split at h
  · injection h with h; subst h; exact s2i_ok cxout
  · injection h with h; subst h; exact s3_ok in3
  · cases h

theorem pq_le {lo v : Int} {p q : Nat → Int} {k : Nat} (h : 1 ≤ p k ∧ p k ≤ 2000000 ∧ -10000000 ≤ q k ∧ q k ≤ 10000000) : -20000000000000 ≤ p k * q k ∧ p k * q k ≤ 20000000000000 := by
  have := mulB (a := p k) (b := q k) (A := 2000000) (B := 10000000) (by omega) (by omega) (by omega) (by omega) (by omega)
  omega

set_option maxHeartbeats 1000000 in
theorem cxCheck (lo v : Int) (n : Nat) (p q : Nat → Int) (hn : n ≤ maxLen) : Fn1 Try.prog 101 [cxV lo v n p q] (intV (cxE lo v n p q)) := by
  refine fn_of_wpx (O := lex) tab_ok gamX1_ok mixed Try.func101 (by kernel_rfl) rfl rfl rfl (by simp [Try.ntmps101]) (by kernel_rfl) ?_
  have hn' : n ≤ 9223372036854775807 := hn
  conv => whnf
  repeat' (first
    | (refine NilG.mk fun bn hbn hbx => ?_; conv => whnf)
    | (refine Both.mk ?_ ?_ <;> conv => whnf)
    | exact trivial
    | (refine Br.mk (fun hb => ?_) (fun hb => ?_) <;> (first | (exfalso; revert hb; decide) | ((try simp only [BL] at hb) <;> (try simp only [DL] at hb) <;> conv => whnf)))
    | (refine And.intro ?_ ?_; (focus (first | exact id | exact rfl | exact trivial | (intro hg; first | exact hg | exact rfl | (simp; done) | (simp at hg ⊢; assumption)) | omega | decide | exact is2_c _ _ _ | exact is1_c _ _ | exact isS_c _ _ | exact isB_c _ _ | exact Nat.le_refl _ | assumption | exact mulLe (by decide) (by omega) | exact mulLe2 (by decide) (by omega) (by omega) | (intros; simp only [BL] at *; omega) | (intros; (try simp only [BL] at *); (try simp only [DL] at *); omega) | (intros; simp only [BL] at *; rw [wr_id (by omega) (by omega)]; omega) | (intro h1 h2; exact Bool.and_eq_true_iff.2 ⟨h1, h2⟩) | (intros; simp_all; done))); conv => whnf)
    | (refine Or.inr (And.intro rfl ?_); first | (refine congrArg intV ?_) | (refine congrArg boolV ?_) | (refine tupII ?_ ?_) | (refine tupIII ?_ ?_ ?_) | (refine tupU ?_ ?_ ?_ ?_ ?_) | exact rfl))
  · unfold cxE
    rw [if_pos (by omega)]
  · rename_i h1
    unfold cxE
    rw [if_neg (by omega), if_pos (by omega)]
  rename_i h1
  have hE : cxE lo v n p q = fst (pcE lo v p q) n := by
    unfold cxE
    rw [if_neg (by omega), if_neg (by omega)]
  have hn64 : n ≤ 64 := by omega
  rw [hE]
  clear hE
  have hb0 := hb
  clear hb h1
  refine sem_loop tab_ok gamX1_ok mixed (by kernel_rfl) (O := lex) (fun i : Nat => ⟨[(28, intV i), (27, intV n), (26, .c (.sl 2 n (c2 p q))), (3, intV (lo + S p i)), (4, intV (v + S (pq p q) i)), (1, .lp 0 0)], [.box [intV lo, intV v, .c (.sl 2 n (c2 p q))]]⟩) (fun i => i ≤ n ∧ fst (pcE lo v p q) i = 0) (fun i => n - i) ⟨0, [?_], ⟨Nat.zero_le _, rfl⟩, ?_⟩ fun i hi => ?_
  rotate_left 1
  · refine Sub.of ?_ ?_ ?_
    repeat' (first | (refine And.intro ?_ ?_) | exact trivial | exact fun _ _ _ => hsc _ _ | (exact congrArg intV (by first | with_reducible rfl | with_reducible assumption)) | exact (rfl : AV.idsLt _ _ = true) | exact (rfl : _ = AV.ren _ (.own _)) | exact (rfl : _ = AV.ren _ (.fn _ _)) | exact (rfl : _ = AV.ren _ (.gh _)) | (exact congrArg intV (by assumption)) | (refine congrArg intV ((wr_id (by omega) (by omega)).trans (by omega))) | exact rfl | (simp only [Int.toNat_natCast, Int.toNat_zero, Nat.sub_zero, Nat.zero_add]; first | exact rfl | done) | exact all0 | exact fun h => Bool.noConfusion h | exact fun _ _ _ _ => rfl | omega)
    · exact congrArg intV (by simp [S])
    · exact congrArg intV (by simp [S])
  have hall := fun k hk => pcE_zero (fst_zero hi.2 k hk)
  have hX : lo + S p i ≤ 1000000 ∧ -1000000 ≤ lo + S p i := by
    have h1 := S_le (p := p) (a := 0) (b := 2000000) (k := i) fun j hj => by have := hall j hj; omega
    cases i with
    | zero => simp only [S]; omega
    | succ i => have := hall i (by omega); omega
  have hY : -1000000000000000 ≤ v + S (pq p q) i ∧ v + S (pq p q) i ≤ 1000000000000000 := by
    cases i with
    | zero => simp only [S]; omega
    | succ i => have := hall i (by omega); omega
  have ei : 0 < i → (IntKind.i64.wrap ((i : Int) - 1)).toNat = i - 1 := fun h0 => by rw [wr_id (by omega) (by omega)]; omega
  have eX : S p (i + 1) = S p i + p i := rfl
  have eY : S (pq p q) (i + 1) = S (pq p q) i + p i * q i := rfl
  conv => whnf
  repeat' (first
    | (refine NilG.mk fun bn hbn hbx => ?_; conv => whnf)
    | (refine Both.mk ?_ ?_ <;> conv => whnf)
    | exact trivial
    | (refine Br.mk (fun hb => ?_) (fun hb => ?_) <;> (first | (exfalso; revert hb; decide) | ((try simp only [BL] at hb) <;> (try simp only [DL] at hb) <;> conv => whnf)))
    | (refine And.intro ?_ ?_; (focus (first | exact id | exact rfl | exact trivial | (intro hg; first | exact hg | exact rfl | (simp; done) | (simp at hg ⊢; assumption)) | omega | decide | exact is2_c _ _ _ | exact is1_c _ _ | exact isS_c _ _ | exact isB_c _ _ | exact Nat.le_refl _ | assumption | exact mulLe (by decide) (by omega) | exact mulLe2 (by decide) (by omega) (by omega) | (intros; simp only [BL] at *; omega) | (intros; (try simp only [BL] at *); (try simp only [DL] at *); omega) | (intros; simp only [BL] at *; rw [wr_id (by omega) (by omega)]; omega) | (intro h1 h2; exact Bool.and_eq_true_iff.2 ⟨h1, h2⟩) | (intros; simp_all; done))); conv => whnf)
    | (refine Or.inr (And.intro rfl ?_); first | (refine congrArg intV ?_) | (refine congrArg boolV ?_) | (refine tupII ?_ ?_) | (refine tupIII ?_ ?_ ?_) | (refine tupU ?_ ?_ ?_ ?_ ?_) | exact rfl))
  · exact fst_eq hi.2 (by omega) (by simp only [pcE]; rw [if_pos (by omega)]) (by decide)
  · rw [ei (by omega)] at hb
    exact fst_eq hi.2 (by omega) (by simp only [pcE]; rw [if_neg (by omega), if_pos (by omega)]) (by decide)
  · rename_i g1 g2
    have hk := pq_le (lo := lo) (v := v) (p := p) (q := q) (k := i) (by omega)
    rw [wr_id (x := lo + S p i + p i) (by omega) (by omega), wr_id (x := p i * q i) (by omega) (by omega), wr_id (by omega) (by omega)] at hb
    exact fst_eq hi.2 (by omega) (by simp only [pcE]; rw [if_neg (by omega), if_neg (by rintro ⟨a, b⟩; rw [ei a] at g2; omega), if_pos (by omega)]) (by decide)
  · rename_i g1 g2
    have hk := pq_le (lo := lo) (v := v) (p := p) (q := q) (k := i) (by omega)
    have e1 : IntKind.i64.wrap (lo + S p i + p i) = lo + S p (i + 1) := (wr_id (by omega) (by omega)).trans (by omega)
    have e2 : IntKind.i64.wrap (v + S (pq p q) i + IntKind.i64.wrap (p i * q i)) = v + S (pq p q) (i + 1) := by rw [wr_id (x := p i * q i) (by omega) (by omega)]; exact (wr_id (by omega) (by omega)).trans (by omega)
    rw [e1, e2] at hb
    refine ⟨i + 1, [?_], ⟨by omega, fst_next hi.2 (by simp only [pcE]; rw [if_neg (by omega), if_neg (by rintro ⟨a, b⟩; rw [ei a] at g2; omega), if_neg (by omega)])⟩, by omega, ?_⟩
    rotate_left 1
    refine Sub.of ?_ ?_ ?_
    repeat' (first | (refine And.intro ?_ ?_) | exact trivial | exact fun _ _ _ => hsc _ _ | (exact congrArg intV (by first | with_reducible rfl | with_reducible assumption)) | exact (rfl : AV.idsLt _ _ = true) | exact (rfl : _ = AV.ren _ (.own _)) | exact (rfl : _ = AV.ren _ (.fn _ _)) | exact (rfl : _ = AV.ren _ (.gh _)) | (exact congrArg intV (by assumption)) | (refine congrArg intV ((wr_id (by omega) (by omega)).trans (by omega))) | exact rfl | (simp only [Int.toNat_natCast, Int.toNat_zero, Nat.sub_zero, Nat.zero_add]; first | exact rfl | done) | exact all0 | exact fun h => Bool.noConfusion h | exact fun _ _ _ _ => rfl | omega)
  · rw [show n = i by omega, hi.2]

theorem cxErr (lo v : Int) (n : Nat) (p q : Nat → Int) (hn : n ≤ maxLen) : Fn1 Try.prog 19 [cxV lo v n p q] (intV (cxE lo v n p q)) := by
  refine fn_of_wpx (O := lex) tab_ok gamX1_ok mixed Try.func19 (by kernel_rfl) rfl rfl rfl (by simp [Try.ntmps19]) (by kernel_rfl) ?_
  have hn' : n ≤ 9223372036854775807 := hn
  conv => whnf
  repeat' (first
    | (refine NilG.mk fun bn hbn hbx => ?_; conv => whnf)
    | (refine Both.mk ?_ ?_ <;> conv => whnf)
    | exact trivial
    | (refine Br.mk (fun hb => ?_) (fun hb => ?_) <;> (first | (exfalso; revert hb; decide) | ((try simp only [BL] at hb) <;> (try simp only [DL] at hb) <;> conv => whnf)))
    | (refine And.intro ?_ ?_; (focus (first | exact id | exact rfl | exact trivial | (intro hg; first | exact hg | exact rfl | (simp; done) | (simp at hg ⊢; assumption)) | omega | decide | exact is2_c _ _ _ | exact is1_c _ _ | exact isS_c _ _ | exact isB_c _ _ | exact Nat.le_refl _ | assumption | exact mulLe (by decide) (by omega) | exact mulLe2 (by decide) (by omega) (by omega) | (intros; simp only [BL] at *; omega) | (intros; (try simp only [BL] at *); (try simp only [DL] at *); omega) | (intros; simp only [BL] at *; rw [wr_id (by omega) (by omega)]; omega) | (intro h1 h2; exact Bool.and_eq_true_iff.2 ⟨h1, h2⟩) | (intros; simp_all; done))); conv => whnf)
    | (refine Or.inr (And.intro rfl ?_); first | (refine congrArg intV ?_) | (refine congrArg boolV ?_) | (refine tupII ?_ ?_) | (refine tupIII ?_ ?_ ?_) | (refine tupU ?_ ?_ ?_ ?_ ?_) | exact rfl))
  · unfold cxE
    rw [if_pos (by omega)]
  · rename_i h1
    unfold cxE
    rw [if_neg (by omega), if_pos (by omega)]
  rename_i h1
  have hE : cxE lo v n p q = fst (pcE lo v p q) n := by
    unfold cxE
    rw [if_neg (by omega), if_neg (by omega)]
  have hn64 : n ≤ 64 := by omega
  rw [hE]
  clear hE
  have hb0 := hb
  clear hb h1
  refine sem_loop tab_ok gamX1_ok mixed (by kernel_rfl) (O := lex) (fun i : Nat => ⟨[(28, intV i), (27, intV n), (26, .c (.sl 2 n (c2 p q))), (3, intV (lo + S p i)), (4, intV (v + S (pq p q) i)), (1, .lp 0 0)], [.box [intV lo, intV v, .c (.sl 2 n (c2 p q))]]⟩) (fun i => i ≤ n ∧ fst (pcE lo v p q) i = 0) (fun i => n - i) ⟨0, [?_], ⟨Nat.zero_le _, rfl⟩, ?_⟩ fun i hi => ?_
  rotate_left 1
  · refine Sub.of ?_ ?_ ?_
    repeat' (first | (refine And.intro ?_ ?_) | exact trivial | exact fun _ _ _ => hsc _ _ | (exact congrArg intV (by first | with_reducible rfl | with_reducible assumption)) | exact (rfl : AV.idsLt _ _ = true) | exact (rfl : _ = AV.ren _ (.own _)) | exact (rfl : _ = AV.ren _ (.fn _ _)) | exact (rfl : _ = AV.ren _ (.gh _)) | (exact congrArg intV (by assumption)) | (refine congrArg intV ((wr_id (by omega) (by omega)).trans (by omega))) | exact rfl | (simp only [Int.toNat_natCast, Int.toNat_zero, Nat.sub_zero, Nat.zero_add]; first | exact rfl | done) | exact all0 | exact fun h => Bool.noConfusion h | exact fun _ _ _ _ => rfl | omega)
    · exact congrArg intV (by simp [S])
    · exact congrArg intV (by simp [S])
  have hall := fun k hk => pcE_zero (fst_zero hi.2 k hk)
  have hX : lo + S p i ≤ 1000000 ∧ -1000000 ≤ lo + S p i := by
    have h1 := S_le (p := p) (a := 0) (b := 2000000) (k := i) fun j hj => by have := hall j hj; omega
    cases i with
    | zero => simp only [S]; omega
    | succ i => have := hall i (by omega); omega
  have hY : -1000000000000000 ≤ v + S (pq p q) i ∧ v + S (pq p q) i ≤ 1000000000000000 := by
    cases i with
    | zero => simp only [S]; omega
    | succ i => have := hall i (by omega); omega
  have ei : 0 < i → (IntKind.i64.wrap ((i : Int) - 1)).toNat = i - 1 := fun h0 => by rw [wr_id (by omega) (by omega)]; omega
  have eX : S p (i + 1) = S p i + p i := rfl
  have eY : S (pq p q) (i + 1) = S (pq p q) i + p i * q i := rfl
  conv => whnf
  repeat' (first
    | (refine NilG.mk fun bn hbn hbx => ?_; conv => whnf)
    | (refine Both.mk ?_ ?_ <;> conv => whnf)
    | exact trivial
    | (refine Br.mk (fun hb => ?_) (fun hb => ?_) <;> (first | (exfalso; revert hb; decide) | ((try simp only [BL] at hb) <;> (try simp only [DL] at hb) <;> conv => whnf)))
    | (refine And.intro ?_ ?_; (focus (first | exact id | exact rfl | exact trivial | (intro hg; first | exact hg | exact rfl | (simp; done) | (simp at hg ⊢; assumption)) | omega | decide | exact is2_c _ _ _ | exact is1_c _ _ | exact isS_c _ _ | exact isB_c _ _ | exact Nat.le_refl _ | assumption | exact mulLe (by decide) (by omega) | exact mulLe2 (by decide) (by omega) (by omega) | (intros; simp only [BL] at *; omega) | (intros; (try simp only [BL] at *); (try simp only [DL] at *); omega) | (intros; simp only [BL] at *; rw [wr_id (by omega) (by omega)]; omega) | (intro h1 h2; exact Bool.and_eq_true_iff.2 ⟨h1, h2⟩) | (intros; simp_all; done))); conv => whnf)
    | (refine Or.inr (And.intro rfl ?_); first | (refine congrArg intV ?_) | (refine congrArg boolV ?_) | (refine tupII ?_ ?_) | (refine tupIII ?_ ?_ ?_) | (refine tupU ?_ ?_ ?_ ?_ ?_) | exact rfl))
  · exact fst_eq hi.2 (by omega) (by simp only [pcE]; rw [if_pos (by omega)]) (by decide)
  · rw [ei (by omega)] at hb
    exact fst_eq hi.2 (by omega) (by simp only [pcE]; rw [if_neg (by omega), if_pos (by omega)]) (by decide)
  · rename_i g1 g2
    have hk := pq_le (lo := lo) (v := v) (p := p) (q := q) (k := i) (by omega)
    rw [wr_id (x := lo + S p i + p i) (by omega) (by omega), wr_id (x := p i * q i) (by omega) (by omega), wr_id (by omega) (by omega)] at hb
    exact fst_eq hi.2 (by omega) (by simp only [pcE]; rw [if_neg (by omega), if_neg (by rintro ⟨a, b⟩; rw [ei a] at g2; omega), if_pos (by omega)]) (by decide)
  · rename_i g1 g2
    have hk := pq_le (lo := lo) (v := v) (p := p) (q := q) (k := i) (by omega)
    have e1 : IntKind.i64.wrap (lo + S p i + p i) = lo + S p (i + 1) := (wr_id (by omega) (by omega)).trans (by omega)
    have e2 : IntKind.i64.wrap (v + S (pq p q) i + IntKind.i64.wrap (p i * q i)) = v + S (pq p q) (i + 1) := by rw [wr_id (x := p i * q i) (by omega) (by omega)]; exact (wr_id (by omega) (by omega)).trans (by omega)
    rw [e1, e2] at hb
    refine ⟨i + 1, [?_], ⟨by omega, fst_next hi.2 (by simp only [pcE]; rw [if_neg (by omega), if_neg (by rintro ⟨a, b⟩; rw [ei a] at g2; omega), if_neg (by omega)])⟩, by omega, ?_⟩
    rotate_left 1
    refine Sub.of ?_ ?_ ?_
    repeat' (first | (refine And.intro ?_ ?_) | exact trivial | exact fun _ _ _ => hsc _ _ | (exact congrArg intV (by first | with_reducible rfl | with_reducible assumption)) | exact (rfl : AV.idsLt _ _ = true) | exact (rfl : _ = AV.ren _ (.own _)) | exact (rfl : _ = AV.ren _ (.fn _ _)) | exact (rfl : _ = AV.ren _ (.gh _)) | (exact congrArg intV (by assumption)) | (refine congrArg intV ((wr_id (by omega) (by omega)).trans (by omega))) | exact rfl | (simp only [Int.toNat_natCast, Int.toNat_zero, Nat.sub_zero, Nat.zero_add]; first | exact rfl | done) | exact all0 | exact fun h => Bool.noConfusion h | exact fun _ _ _ _ => rfl | omega)
  · rw [show n = i by omega, hi.2]

end Go.Proofs.Ytkkkldhilofgmaa
