/-
  ConvexValues holds: convexpl's Check, At, Least and Conjugate return what the values say, whatever the input.
-/
import Derived.Test.YtogibhkbckfgbaaCvx2
namespace Go.Proofs.Ytogibhkbckfgbaa
open Go.RowKit Go.ChangeShapes Go.WideShapes

def riseP : Nat → Int := fun _ => 10
def riseQ : Nat → Int := fun k => if k = 0 then 5 else 8
def riseF (obs : List OB) (r : AV) : Prop := obs = [] ∧ ∃ f, r = .agg [intV 0, intV 0, .c (.sl 2 2 f)] ∧ Sh 2 2 f (c2 riseP riseQ)
theorem rises0 : Fn Try.prog 79 [] riseF := by
  refine fn_of_wpx (O := lex) tab_ok gamX1_ok mixed Try.func79 (by kernel_rfl) rfl rfl rfl (by simp [Try.ntmps79]) (by kernel_rfl) ?_
  conv => whnf
  repeat' (first
    | (refine NilG.mk fun bn hbn => ?_; conv => whnf)
    | (refine Both.mk ?_ ?_ <;> conv => whnf)
    | exact trivial
    | (refine Br.mk (fun hb => ?_) (fun hb => ?_) <;> (first | (exfalso; revert hb; decide) | ((try simp only [BL] at hb) <;> (try simp only [DL] at hb) <;> conv => whnf)))
    | (refine And.intro ?_ ?_; (focus (first | exact id | exact rfl | exact trivial | (intro hg; first | exact hg | exact rfl | (simp; done) | (simp at hg ⊢; assumption)) | omega | decide | exact is2_c _ _ _ | exact is1_c _ _ | exact isS_c _ _ | exact isB_c _ _ | exact Nat.le_refl _ | assumption | exact mulLe (by decide) (by omega) | exact mulLe2 (by decide) (by omega) (by omega) | (intros; simp only [BL] at *; omega) | (intros; (try simp only [BL] at *); (try simp only [DL] at *); omega) | (intros; simp only [BL] at *; rw [wr_id (by omega) (by omega)]; omega) | (intros; simp_all; done))); conv => whnf)
    | (refine Or.inr (And.intro rfl ?_); first | (refine congrArg intV ?_) | (refine congrArg boolV ?_) | (refine tupII ?_ ?_) | (refine tupIII ?_ ?_ ?_) | (refine tupU ?_ ?_ ?_ ?_ ?_) | exact rfl))
  refine .inr ⟨rfl, _, rfl, fun k hk j hj => ?_⟩
  match k, j, hk, hj with
  | 0, 0, _, _ => rfl
  | 0, 1, _, _ => rfl
  | 1, 0, _, _ => rfl
  | 1, 1, _, _ => rfl
theorem rises : Fn1 Try.prog 79 [] (cxV 0 0 2 riseP riseQ) :=
  rises0.res fun obs r ⟨h1, f, h2, h3⟩ => ⟨_, ⟨h1, rfl⟩, h2 ▸ Le1.agg (Le.cons (Le1.refl _) (Le.cons (Le1.refl _) (Le.cons (Le1.sl h3) Le.nil)))⟩

def gamX3 : Gam := fun f => match f with
  | 48 => some (sCxi (fun _ _ n _ _ _ => n ≤ maxLen) fun lo v n p q x => .tup [intV (if atE lo v n p q x = 0 then v + S (ct p q (x - lo)) n else 0), intV (atE lo v n p q x)])
  | _ => none
theorem gamX3_ok : GOk Try.prog gamX3 := fun f g h => by
  unfold gamX3 at h
  split at h
  · injection h with h; subst h; exact sCxi_ok cxAt
  · cases h
theorem rise_at : atE 0 0 2 riseP riseQ 12 = 0 ∧ (0 : Int) + S (ct riseP riseQ (12 - 0)) 2 = 66 := by decide
theorem slopes : Fn1 Try.prog 45 [] (boolV true) := by
  refine fn_of_wpx (O := lex) tab_ok gamX3_ok mixed Try.func45 (by kernel_rfl) rfl rfl rfl (by simp [Try.ntmps45]) (by kernel_rfl) ?_
  conv => whnf
  repeat' (first
    | (refine NilG.mk fun bn hbn => ?_; conv => whnf)
    | (refine Both.mk ?_ ?_ <;> conv => whnf)
    | exact trivial
    | (refine Br.mk (fun hb => ?_) (fun hb => ?_) <;> (first | (exfalso; revert hb; decide) | ((try simp only [BL] at hb) <;> (try simp only [DL] at hb) <;> conv => whnf)))
    | (refine And.intro ?_ ?_; (focus (first | exact id | exact rfl | exact trivial | (intro hg; first | exact hg | exact rfl | (simp; done) | (simp at hg ⊢; assumption)) | omega | decide | exact is2_c _ _ _ | exact is1_c _ _ | exact isS_c _ _ | exact isB_c _ _ | exact Nat.le_refl _ | assumption | exact mulLe (by decide) (by omega) | exact mulLe2 (by decide) (by omega) (by omega) | (intros; simp only [BL] at *; omega) | (intros; (try simp only [BL] at *); (try simp only [DL] at *); omega) | (intros; simp only [BL] at *; rw [wr_id (by omega) (by omega)]; omega) | (intros; simp_all; done))); conv => whnf)
    | (refine Or.inr (And.intro rfl ?_); first | (refine congrArg intV ?_) | (refine congrArg boolV ?_) | (refine tupII ?_ ?_) | (refine tupIII ?_ ?_ ?_) | (refine tupU ?_ ?_ ?_ ?_ ?_) | exact rfl))
  refine CallG.mk (Fn.mono rises ?_)
  rintro obs r ⟨rfl, rfl⟩
  conv => whnf
  repeat' (first
    | (refine NilG.mk fun bn hbn => ?_; conv => whnf)
    | (refine Both.mk ?_ ?_ <;> conv => whnf)
    | exact trivial
    | (refine Br.mk (fun hb => ?_) (fun hb => ?_) <;> (first | (exfalso; revert hb; decide) | ((try simp only [BL] at hb) <;> (try simp only [DL] at hb) <;> conv => whnf)))
    | (refine And.intro ?_ ?_; (focus (first | exact id | exact rfl | exact trivial | (intro hg; first | exact hg | exact rfl | (simp; done) | (simp at hg ⊢; assumption)) | omega | decide | exact is2_c _ _ _ | exact is1_c _ _ | exact isS_c _ _ | exact isB_c _ _ | exact Nat.le_refl _ | assumption | exact mulLe (by decide) (by omega) | exact mulLe2 (by decide) (by omega) (by omega) | (intros; simp only [BL] at *; omega) | (intros; (try simp only [BL] at *); (try simp only [DL] at *); omega) | (intros; simp only [BL] at *; rw [wr_id (by omega) (by omega)]; omega) | (intros; simp_all; done) | exact ⟨is2_c _ _ _, by decide⟩)); conv => whnf)
    | (refine Or.inr (And.intro rfl ?_); first | (refine congrArg intV ?_) | (refine congrArg boolV ?_) | (refine tupII ?_ ?_) | (refine tupIII ?_ ?_ ?_) | (refine tupU ?_ ?_ ?_ ?_ ?_) | exact rfl))
  · show (atE 0 0 2 riseP riseQ 12 == 0 && (if atE 0 0 2 riseP riseQ 12 = 0 then (0 : Int) + S (ct riseP riseQ (12 - 0)) 2 else 0) == 66) = true
    rw [rise_at.1, if_pos rfl, rise_at.2]
    rfl

/-- a line's distance from the values, unit by unit -/
def cG (lo v : Int) (n : Nat) (p q : Nat → Int) (t : Int) (m : Nat) : Int := t * (lo + m) - cW v n p q m
theorem cG_step {lo v : Int} {n : Nat} {p q : Nat → Int} (h : okCx lo v n p q) (t : Int) {m : Nat} (hm : (m : Int) < S p n) :
    ((m : Int) < S (SP1 p q t) n → cG lo v n p q t m < cG lo v n p q t (m + 1)) ∧ (S (SP1 p q t) n ≤ m → cG lo v n p q t (m + 1) ≤ cG lo v n p q t m) := by
  obtain ⟨i, hi, h0, h1⟩ := piece h.pos (m := (m : Int)) (by omega) hm
  have hu := unit_lt h.pos h.inc t hi h0 h1
  have hs := cW_step h hi h0 h1
  have e : t * (lo + ((m + 1 : Nat) : Int)) = t * (lo + m) + t := by rw [show lo + ((m + 1 : Nat) : Int) = (lo + m) + 1 by omega, Int.mul_add, Int.mul_one]
  unfold cG
  rw [hs, e]
  exact ⟨fun h => by have := hu.1 h; omega, fun h => by have := hu.2 h; omega⟩
theorem cW_zero {v : Int} {n : Nat} {p q : Nat → Int} {m : Nat} : cG 0 v n p q 0 m = -cW v n p q m := by unfold cG; rw [Int.zero_mul]; omega
theorem cW_move {lo v : Int} {n : Nat} {p q : Nat → Int} (h : okCx lo v n p q) {m : Nat} (hm : (m : Int) < S p n) :
    ((m : Int) < S (SP1 p q 0) n → cW v n p q (m + 1) < cW v n p q m) ∧ (S (SP1 p q 0) n ≤ m → cW v n p q m ≤ cW v n p q (m + 1)) := by
  have := cG_step h 0 hm
  unfold cG at this
  rw [Int.zero_mul, Int.zero_mul] at this
  exact ⟨fun h => by have := this.1 h; omega, fun h => by have := this.2 h; omega⟩

theorem min_step {lo v : Int} {n : Nat} {p q : Nat → Int} (h : okCx lo v n p q) {l0 k : Nat} (hl0 : (l0 : Int) = S (SP1 p q 0) n) (hk : (k : Int) ≤ S p n) : cW v n p q k < cW v n p q (min (k - 1) l0) ↔ 1 ≤ k ∧ k ≤ l0 := by
  have hS := h.sS (Nat.le_refl n)
  constructor
  · intro hlt
    by_cases h0 : k = 0
    · subst h0
      rw [show min (0 - 1) l0 = 0 by omega] at hlt
      omega
    · by_cases h1 : k ≤ l0
      · exact ⟨by omega, h1⟩
      · rw [show min (k - 1) l0 = l0 by omega] at hlt
        have := fall_rise (g := cW v n p q) (l := l0) (T := (S p n).toNat) (fun m a b => (cW_move h (m := m) (by omega)).2 (by omega)) k (by omega) (by omega)
        omega
  · rintro ⟨h0, h1⟩
    rw [show min (k - 1) l0 = k - 1 by omega]
    have := (cW_move h (m := k - 1) (by omega)).1 (by omega)
    rwa [show k - 1 + 1 = k by omega] at this
theorem max_step {lo v : Int} {n : Nat} {p q : Nat → Int} (h : okCx lo v n p q) {t : Int} {l0 k : Nat} (hl0 : (l0 : Int) = S (SP1 p q t) n) (hk : (k : Int) ≤ S p n) : max (cG lo v n p q t (min (k - 1) l0)) (cG lo v n p q t k) = cG lo v n p q t (min k l0) := by
  have hS := h.sS (Nat.le_refl n)
  by_cases h0 : k = 0
  · subst h0
    rw [show min (0 - 1) l0 = 0 by omega]
    omega
  · by_cases h1 : k ≤ l0
    · rw [show min (k - 1) l0 = k - 1 by omega, show min k l0 = k by omega]
      have := (cG_step h t (m := k - 1) (by omega)).1 (by omega)
      rw [show k - 1 + 1 = k by omega] at this
      omega
    · rw [show min (k - 1) l0 = l0 by omega, show min k l0 = l0 by omega]
      have := rise_fall (g := cG lo v n p q t) (l := l0) (T := (S p n).toNat) (fun m a b => (cG_step h t (m := m) (by omega)).2 (by omega)) k (by omega) (by omega)
      omega

def gamX4 : Gam := fun f => match f with
  | 45 => some fun args => match args with
    | [] => (.t, boolV true)
    | _ => (.p False, .top)
  | 46 => some (sCx (fun _ _ n _ _ => n ≤ maxLen) fun lo v n p q => intV (cxE lo v n p q))
  | 47 => some (sCx (fun _ _ n _ _ => n ≤ maxLen) fun lo v n p q => intV (cxE lo v n p q))
  | 48 => some (sCxi (fun _ _ n _ _ _ => n ≤ maxLen) fun lo v n p q x => .tup [intV (if atE lo v n p q x = 0 then v + S (ct p q (x - lo)) n else 0), intV (atE lo v n p q x)])
  | 49 => some (sCx (fun _ _ n _ _ => n ≤ maxLen) fun lo v n p q => .tup [intV (if cxE lo v n p q = 0 then lo + S (SP1 p q 0) n else 0), intV (if cxE lo v n p q = 0 then v + S (ct p q (S (SP1 p q 0) n)) n else 0), intV (cxE lo v n p q)])
  | 50 => some (sCxi (fun _ _ n _ _ _ => n ≤ maxLen) fun lo v n p q t => .tup [intV (if cjE lo v n p q t = 0 then t * (lo + S (SP1 p q t) n) - (v + S (ct p q (S (SP1 p q t) n)) n) else 0), intV (cjE lo v n p q t)])
  | 51 => some (sCx (fun _ _ n _ _ => n ≤ maxLen) fun lo v n p q => .tup [intV (if cxE lo v n p q = 0 then lo + S p n else 0), intV (cxE lo v n p q)])
  | 21 => some (s3 inB)
  | _ => none
theorem gamX4_ok : GOk Try.prog gamX4 := fun f g h => by
  unfold gamX4 at h
  split at h
  · injection h with h; subst h
    intro args hs _
    cases args with
    | nil => exact slopes
    | cons _ _ => exact hs.elim
  · injection h with h; subst h; exact sCx_ok cxErr
  · injection h with h; subst h; exact sCx_ok cxCheck
  · injection h with h; subst h; exact sCxi_ok fun lo v n p q x h => cxAt lo v n p q x h
  · injection h with h; subst h; exact sCx_ok cxLeast
  · injection h with h; subst h; exact sCxi_ok fun lo v n p q x h => cxConj lo v n p q x h
  · injection h with h; subst h; exact sCx_ok cxHigh
  · injection h with h; subst h; exact s3_ok in3
  · cases h

set_option maxHeartbeats 4000000 in
theorem cxLaw (lo v : Int) (n : Nat) (p q : Nat → Int) (x t : Int) (hn : n ≤ maxLen) (hx : -9223372036854775808 ≤ x ∧ x ≤ 9223372036854775807) : Fn1 Try.prog 9 [cxV lo v n p q, intV x, intV t] (boolV true) := by
  refine fn_of_wpx (O := lex) tab_ok gamX4_ok mixed Try.func9 (by kernel_rfl) rfl rfl rfl (by simp [Try.ntmps9]) (by kernel_rfl) ?_
  conv => whnf
  repeat' (first
    | (refine NilG.mk fun bn hbn => ?_; conv => whnf)
    | (refine Both.mk ?_ ?_ <;> conv => whnf)
    | exact trivial
    | (refine Br.mk (fun hb => ?_) (fun hb => ?_) <;> (first | (exfalso; revert hb; decide) | ((try simp only [BL] at hb) <;> (try simp only [DL] at hb) <;> conv => whnf)))
    | (refine And.intro ?_ ?_; (focus (first | exact id | exact rfl | exact trivial | (intro hg; first | exact hg | exact rfl | (simp; done) | (simp at hg ⊢; assumption)) | omega | decide | exact is2_c _ _ _ | exact is1_c _ _ | exact isS_c _ _ | exact isB_c _ _ | exact Nat.le_refl _ | assumption | exact mulLe (by decide) (by omega) | exact mulLe2 (by decide) (by omega) (by omega) | (intros; simp only [BL] at *; omega) | (intros; (try simp only [BL] at *); (try simp only [DL] at *); omega) | (intros; simp only [BL] at *; rw [wr_id (by omega) (by omega)]; omega) | (intros; simp_all; done) | first | exact ⟨is2_c _ _ _, hn⟩)); conv => whnf)
    | (refine Or.inr (And.intro rfl ?_); first | (refine congrArg intV ?_) | (refine congrArg boolV ?_) | (refine tupII ?_ ?_) | (refine tupIII ?_ ?_ ?_) | (refine tupU ?_ ?_ ?_ ?_ ?_) | exact rfl))
  · exact absurd trivial hb
  · show (atE lo v n p q x == cxE lo v n p q && cxE lo v n p q == cxE lo v n p q && cjE lo v n p q t == cxE lo v n p q && cxE lo v n p q == cxE lo v n p q && (if atE lo v n p q x = 0 then _ else 0) == 0 && (if cxE lo v n p q = 0 then _ else 0) == 0 && (if cxE lo v n p q = 0 then _ else 0) == 0 && (if cjE lo v n p q t = 0 then _ else 0) == 0 && (if cxE lo v n p q = 0 then _ else 0) == 0) = true
    have h1 : atE lo v n p q x = cxE lo v n p q := if_pos hb
    have h2 : cjE lo v n p q t = cxE lo v n p q := if_pos hb
    rw [h1, h2, if_neg hb, if_neg hb, if_neg hb, if_neg hb, if_neg hb]
    simp
  have h0 : cxE lo v n p q = 0 := hb
  clear hb
  have h := cxE_zero h0
  have bnd := h.2
  have hn64 := h.1
  have hST := h.sS (Nat.le_refl n)
  have e10 : (if cxE lo v n p q = 0 then lo + S (SP1 p q 0) n else 0) = lo + S (SP1 p q 0) n := if_pos h0
  have e11 : (if cxE lo v n p q = 0 then v + S (ct p q (S (SP1 p q 0) n)) n else 0) = v + S (ct p q (S (SP1 p q 0) n)) n := if_pos h0
  have e15 : (if cxE lo v n p q = 0 then lo + S p n else 0) = lo + S p n := if_pos h0
  refine sem_loop tab_ok gamX4_ok mixed (by kernel_rfl) (O := lex) (fun i : Nat => ⟨[(101, intV i), (100, intV n), (99, .c (.sl 2 n (c2 p q))), (17, intV (S p i)), (1, intV x), (2, intV t), (3, .lp 0 0),
      (8, intV (if atE lo v n p q x = 0 then v + S (ct p q (x - lo)) n else 0)), (9, intV (atE lo v n p q x)), (10, intV (lo + S (SP1 p q 0) n)), (11, intV (v + S (ct p q (S (SP1 p q 0) n)) n)), (12, intV 0),
      (13, intV (if cjE lo v n p q t = 0 then t * (lo + S (SP1 p q t) n) - (v + S (ct p q (S (SP1 p q t) n)) n) else 0)), (14, intV (cjE lo v n p q t)), (15, intV (lo + S p n)), (16, intV 0)], [.box [intV lo, intV v, .c (.sl 2 n (c2 p q))]]⟩) (fun i => i ≤ n) (fun i => n - i) ⟨0, [?_], Nat.zero_le _, ?_⟩ fun i hi => ?_
  rotate_left 1
  · refine Sub.of ?_ ?_ ?_
    repeat' (first | (refine And.intro ?_ ?_) | exact trivial | (exact congrArg intV (by assumption)) | (refine congrArg intV ((wr_id (by omega) (by omega)).trans (by omega))) | exact rfl | (simp only [Int.toNat_natCast, Int.toNat_zero, Nat.sub_zero, Nat.zero_add]; first | exact rfl | done) | exact all0 | exact fun h => Bool.noConfusion h | exact fun _ _ _ _ => rfl | omega)
  have hS := h.sS hi
  conv => whnf
  repeat' (first
    | (refine NilG.mk fun bn hbn => ?_; conv => whnf)
    | (refine Both.mk ?_ ?_ <;> conv => whnf)
    | exact trivial
    | (refine Br.mk (fun hb => ?_) (fun hb => ?_) <;> (first | (exfalso; revert hb; decide) | ((try simp only [BL] at hb) <;> (try simp only [DL] at hb) <;> conv => whnf)))
    | (refine And.intro ?_ ?_; (focus (first | exact id | exact rfl | exact trivial | (intro hg; first | exact hg | exact rfl | (simp; done) | (simp at hg ⊢; assumption)) | omega | decide | exact is2_c _ _ _ | exact is1_c _ _ | exact isS_c _ _ | exact isB_c _ _ | exact Nat.le_refl _ | assumption | exact mulLe (by decide) (by omega) | exact mulLe2 (by decide) (by omega) (by omega) | (intros; simp only [BL] at *; omega) | (intros; (try simp only [BL] at *); (try simp only [DL] at *); omega) | (intros; simp only [BL] at *; rw [wr_id (by omega) (by omega)]; omega) | (intros; simp_all; done))); conv => whnf)
    | (refine Or.inr (And.intro rfl ?_); first | (refine congrArg intV ?_) | (refine congrArg boolV ?_) | (refine tupII ?_ ?_) | (refine tupIII ?_ ?_ ?_) | (refine tupU ?_ ?_ ?_ ?_ ?_) | exact rfl))
  · have hS1 := h.sS (k := i + 1) (by omega)
    have hp := h.2.2.2.2.2.1 i (by omega)
    have e1 : IntKind.i64.wrap (S p i + p i) = S p (i + 1) := wr_id (by simp only [S] at hS1; omega) (by simp only [S] at hS1; omega)
    refine ⟨i + 1, [?_], by omega, by omega, ?_⟩
    rotate_left 1
    refine Sub.of ?_ ?_ ?_
    repeat' (first | (refine And.intro ?_ ?_) | exact trivial | (exact congrArg intV (by assumption)) | (refine congrArg intV ((wr_id (by omega) (by omega)).trans (by omega))) | exact rfl | (simp only [Int.toNat_natCast, Int.toNat_zero, Nat.sub_zero, Nat.zero_add]; first | exact rfl | done) | exact all0 | exact fun h => Bool.noConfusion h | exact fun _ _ _ _ => rfl | omega)
  · obtain rfl : i = n := by omega
    rw [wr_id (by omega) (by omega)] at hb
    rcases hb with h | h
    · exact absurd trivial h
    · exact absurd rfl h
  · rfl
  obtain rfl : i = n := by omega
  rename_i hq
  clear hq e10 e11 e15
  have hT : S p i ≤ 200 := by omega
  clear hb
  refine CallG.mk (Fn.mono (cxValues lo v i p q h) ?_)
  rintro obs r ⟨rfl, rfl⟩
  have hTN : (cxT i p : Int) = S p i := by unfold cxT; omega
  have hW := fun m => cW_le h m
  have hL0 := SP1_in (q := q) h.pos 0
  obtain ⟨l0, hl0⟩ : ∃ l0 : Nat, (l0 : Int) = S (SP1 p q 0) i := ⟨(S (SP1 p q 0) i).toNat, by omega⟩
  have hLt := SP1_in (q := q) h.pos t
  obtain ⟨lt, hlt⟩ : ∃ lt : Nat, (lt : Int) = S (SP1 p q t) i := ⟨(S (SP1 p q t) i).toNat, by omega⟩
  have atV : ¬(x < lo ∨ lo + S p i < x) → (x - lo).toNat < cxT i p + 1 ∧ v + S (ct p q (x - lo)) i = cW v i p q (x - lo).toNat ∧ atE lo v i p q x = 0 := fun hx => by
    refine ⟨by omega, ?_, ?_⟩
    · unfold cW; rw [show (((x - lo).toNat : Nat) : Int) = x - lo by omega]
    · unfold atE; rw [if_neg (fun hh => hh h0), if_neg hx]
  have e1 : lo ≤ x ∧ x ≤ lo + S p i → IntKind.i64.wrap (x - lo) = x - lo := fun hh => wr_id (by omega) (by omega)
  conv => whnf
  repeat' (first
    | (refine NilG.mk fun bn hbn => ?_; conv => whnf)
    | (refine Both.mk ?_ ?_ <;> conv => whnf)
    | exact trivial
    | (refine Br.mk (fun hb => ?_) (fun hb => ?_) <;> (first | (exfalso; revert hb; decide) | ((try simp only [BL] at hb) <;> (try simp only [DL] at hb) <;> conv => whnf)))
    | (refine And.intro ?_ ?_; (focus (first | exact id | exact rfl | exact trivial | (intro hg; first | exact hg | exact rfl | (simp; done) | (simp at hg ⊢; assumption)) | omega | decide | exact is2_c _ _ _ | exact is1_c _ _ | exact isS_c _ _ | exact isB_c _ _ | exact Nat.le_refl _ | assumption | exact mulLe (by decide) (by omega) | exact mulLe2 (by decide) (by omega) (by omega) | (intros; simp only [BL] at *; omega) | (intros; (try simp only [BL] at *); (try simp only [DL] at *); omega) | (intros; simp only [BL] at *; rw [wr_id (by omega) (by omega)]; omega) | (intros; simp_all; done))); conv => whnf)
    | (refine Or.inr (And.intro rfl ?_); first | (refine congrArg intV ?_) | (refine congrArg boolV ?_) | (refine tupII ?_ ?_) | (refine tupIII ?_ ?_ ?_) | (refine tupU ?_ ?_ ?_ ?_ ?_) | exact rfl))
  · rename_i hx
    have hE : atE lo v i p q x = 4 := by unfold atE; rw [if_neg (fun hh => hh h0), if_pos (by omega)]
    rw [hE] at hb
    rcases hb with hh | hh
    · exact absurd rfl hh
    · exact absurd rfl hh
  rotate_left
  · rename_i hx
    obtain ⟨a1, a2, a3⟩ := atV (by omega)
    rw [a3, if_pos rfl, e1 (by omega), a2] at hb
    rcases hb with hh | hh
    · exact absurd rfl hh
    · exact absurd rfl hh
  all_goals
    clear hb
    refine sem_loop tab_ok gamX4_ok mixed (by kernel_rfl) (O := lex) (fun k : Nat => ⟨[(151, intV k), (150, intV ((cxT i p + 1 : Nat) : Int)), (149, .c (.sl 1 (cxT i p + 1) (c1 (cW v i p q)))), (20, .c (.sl 1 (cxT i p + 1) (c1 (cW v i p q)))), (21, intV ((min (k - 1) l0 : Nat) : Int)), (2, intV t), (3, .lp 0 0),
          (10, intV (lo + S (SP1 p q 0) i)), (11, intV (v + S (ct p q (S (SP1 p q 0) i)) i)), (12, intV 0),
          (13, intV (if cjE lo v i p q t = 0 then t * (lo + S (SP1 p q t) i) - (v + S (ct p q (S (SP1 p q t) i)) i) else 0)), (14, intV (cjE lo v i p q t))], [.box [intV lo, intV v, .c (.sl 2 i (c2 p q))]]⟩) (fun k => k ≤ cxT i p + 1) (fun k => cxT i p + 1 - k) ⟨0, [?_], Nat.zero_le _, ?_⟩ fun k hk => ?_
    rotate_left 1
    · refine Sub.of ?_ ?_ ?_
      repeat' (first | (refine And.intro ?_ ?_) | exact trivial | (exact congrArg intV (by assumption)) | (refine congrArg intV ((wr_id (by omega) (by omega)).trans (by omega))) | exact rfl | (simp only [Int.toNat_natCast, Int.toNat_zero, Nat.sub_zero, Nat.zero_add]; first | exact rfl | done) | exact all0 | exact fun h => Bool.noConfusion h | exact fun _ _ _ _ => rfl | omega)
    conv => whnf
    repeat' (first
      | (refine NilG.mk fun bn hbn => ?_; conv => whnf)
      | (refine Both.mk ?_ ?_ <;> conv => whnf)
      | exact trivial
      | (refine Br.mk (fun hb => ?_) (fun hb => ?_) <;> (first | (exfalso; revert hb; decide) | ((try simp only [BL] at hb) <;> (try simp only [DL] at hb) <;> conv => whnf)))
      | (refine And.intro ?_ ?_; (focus (first | exact id | exact rfl | exact trivial | (intro hg; first | exact hg | exact rfl | (simp; done) | (simp at hg ⊢; assumption)) | omega | decide | exact is2_c _ _ _ | exact is1_c _ _ | exact isS_c _ _ | exact isB_c _ _ | exact Nat.le_refl _ | assumption | exact mulLe (by decide) (by omega) | exact mulLe2 (by decide) (by omega) (by omega) | (intros; simp only [BL] at *; omega) | (intros; (try simp only [BL] at *); (try simp only [DL] at *); omega) | (intros; simp only [BL] at *; rw [wr_id (by omega) (by omega)]; omega) | (intros; simp_all; done))); conv => whnf)
      | (refine Or.inr (And.intro rfl ?_); first | (refine congrArg intV ?_) | (refine congrArg boolV ?_) | (refine tupII ?_ ?_) | (refine tupIII ?_ ?_ ?_) | (refine tupU ?_ ?_ ?_ ?_ ?_) | exact rfl))
    · have hm := (min_step h hl0 (k := k) (by omega)).1 hb
      refine ⟨k + 1, [?_], by omega, by omega, ?_⟩
      rotate_left 1
      refine Sub.of ?_ ?_ ?_
      repeat' (first | (refine And.intro ?_ ?_) | exact trivial | (exact congrArg intV (by assumption)) | (refine congrArg intV ((wr_id (by omega) (by omega)).trans (by omega))) | exact rfl | (simp only [Int.toNat_natCast, Int.toNat_zero, Nat.sub_zero, Nat.zero_add]; first | exact rfl | done) | exact all0 | exact fun h => Bool.noConfusion h | exact fun _ _ _ _ => rfl | omega)
      exact congrArg intV (by omega)
    · have hm : ¬(1 ≤ k ∧ k ≤ l0) := fun hh => hb ((min_step h hl0 (k := k) (by omega)).2 hh)
      refine ⟨k + 1, [?_], by omega, by omega, ?_⟩
      rotate_left 1
      refine Sub.of ?_ ?_ ?_
      repeat' (first | (refine And.intro ?_ ?_) | exact trivial | (exact congrArg intV (by assumption)) | (refine congrArg intV ((wr_id (by omega) (by omega)).trans (by omega))) | exact rfl | (simp only [Int.toNat_natCast, Int.toNat_zero, Nat.sub_zero, Nat.zero_add]; first | exact rfl | done) | exact all0 | exact fun h => Bool.noConfusion h | exact fun _ _ _ _ => rfl | omega)
      exact congrArg intV (by omega)
    · exfalso
      obtain rfl : k = cxT i p + 1 := by omega
      rw [show min (cxT i p + 1 - 1) l0 = l0 by omega, wr_id (by omega) (by omega)] at hb
      rcases hb with (hh | hh) | hh
      · exact hh trivial
      · omega
      · refine hh ?_
        unfold cW
        rw [hl0]
    · have hE : cjE lo v i p q t = 4 := by unfold cjE; rw [if_neg (fun hh => hh h0), if_pos (by omega)]
      rw [hE]
      rfl
    obtain rfl : k = cxT i p + 1 := by omega
    have hE : cjE lo v i p q t = 0 := by unfold cjE; rw [if_neg (fun hh => hh h0), if_neg (by omega)]
    have ht := hb
    clear hb
    have hG : ∀ k : Nat, (k : Int) ≤ S p i → -30000000000000 ≤ t * (lo + k) ∧ t * (lo + k) ≤ 30000000000000 := fun k hk => by
      have hm := mulB (a := t + 10000000) (b := lo + k) (A := 20000000) (B := 1000000) (by omega) (by omega) (by omega) (by omega) (by omega)
      rw [Int.add_mul] at hm
      omega
    have e0 : IntKind.i64.wrap (IntKind.i64.wrap (t * lo) - cW v i p q 0) = cG lo v i p q t 0 := by
      have := hG 0 (by omega)
      have := hW 0
      rw [show lo + ((0 : Nat) : Int) = lo by omega] at *
      rw [wr_id (x := t * lo) (by omega) (by omega), wr_id (by omega) (by omega)]
      unfold cG
      rw [show lo + ((0 : Nat) : Int) = lo by omega]
    refine sem_loop tab_ok gamX4_ok mixed (by kernel_rfl) (O := lex) (fun k : Nat => ⟨[(201, intV k), (200, intV ((cxT i p + 1 : Nat) : Int)), (199, .c (.sl 1 (cxT i p + 1) (c1 (cW v i p q)))), (24, intV (cG lo v i p q t (min (k - 1) lt))), (2, intV t), (3, .lp 0 0),
          (13, intV (if cjE lo v i p q t = 0 then t * (lo + S (SP1 p q t) i) - (v + S (ct p q (S (SP1 p q t) i)) i) else 0)), (14, intV (cjE lo v i p q t))], [.box [intV lo, intV v, .c (.sl 2 i (c2 p q))]]⟩) (fun k => k ≤ cxT i p + 1) (fun k => cxT i p + 1 - k) ⟨0, [?_], Nat.zero_le _, ?_⟩ fun k hk => ?_
    rotate_left 1
    · refine Sub.of ?_ ?_ ?_
      repeat' (first | (refine And.intro ?_ ?_) | exact trivial | (exact congrArg intV (by assumption)) | (refine congrArg intV ((wr_id (by omega) (by omega)).trans (by omega))) | exact rfl | (simp only [Int.toNat_natCast, Int.toNat_zero, Nat.sub_zero, Nat.zero_add]; first | exact rfl | done) | exact all0 | exact fun h => Bool.noConfusion h | exact fun _ _ _ _ => rfl | omega)
    conv => whnf
    repeat' (first
      | (refine NilG.mk fun bn hbn => ?_; conv => whnf)
      | (refine Both.mk ?_ ?_ <;> conv => whnf)
      | exact trivial
      | (refine Br.mk (fun hb => ?_) (fun hb => ?_) <;> (first | (exfalso; revert hb; decide) | ((try simp only [BL] at hb) <;> (try simp only [DL] at hb) <;> conv => whnf)))
      | (refine And.intro ?_ ?_; (focus (first | exact id | exact rfl | exact trivial | (intro hg; first | exact hg | exact rfl | (simp; done) | (simp at hg ⊢; assumption)) | omega | decide | exact is2_c _ _ _ | exact is1_c _ _ | exact isS_c _ _ | exact isB_c _ _ | exact Nat.le_refl _ | assumption | exact mulLe (by decide) (by omega) | exact mulLe2 (by decide) (by omega) (by omega) | (intros; simp only [BL] at *; omega) | (intros; (try simp only [BL] at *); (try simp only [DL] at *); omega) | (intros; simp only [BL] at *; rw [wr_id (by omega) (by omega)]; omega) | (intros; simp_all; done))); conv => whnf)
      | (refine Or.inr (And.intro rfl ?_); first | (refine congrArg intV ?_) | (refine congrArg boolV ?_) | (refine tupII ?_ ?_) | (refine tupIII ?_ ?_ ?_) | (refine tupU ?_ ?_ ?_ ?_ ?_) | exact rfl))
    · have g1 := hG k (by omega)
      have g2 := hW k
      have g3 := max_step h hlt (k := k) (by omega)
      have e2 : max (cG lo v i p q t (min (k - 1) lt)) (IntKind.i64.wrap (IntKind.i64.wrap (t * IntKind.i64.wrap (lo + k)) - cW v i p q k)) = cG lo v i p q t (min (k + 1 - 1) lt) := by
        rw [wr_id (x := lo + k) (by omega) (by omega), wr_id (x := t * (lo + k)) (by omega) (by omega), wr_id (by omega) (by omega)]
        rw [show k + 1 - 1 = k by omega]
        exact g3
      refine ⟨k + 1, [?_], by omega, by omega, ?_⟩
      rotate_left 1
      refine Sub.of ?_ ?_ ?_
      repeat' (first | (refine And.intro ?_ ?_) | exact trivial | (exact congrArg intV (by assumption)) | (refine congrArg intV ((wr_id (by omega) (by omega)).trans (by omega))) | exact rfl | (simp only [Int.toNat_natCast, Int.toNat_zero, Nat.sub_zero, Nat.zero_add]; first | exact rfl | done) | exact all0 | exact fun h => Bool.noConfusion h | exact fun _ _ _ _ => rfl | omega)
    · obtain rfl : k = cxT i p + 1 := by omega
      rw [hE, if_pos rfl, show min (cxT i p + 1 - 1) lt = lt by omega]
      unfold cG cW
      rw [hlt]
      simp

theorem convexValues_own : ownKnob Try.prog.godebug = none := by kernel_rfl
theorem convexValues_laid : laidOutB Try.prog = true := by kernel_rfl

set_option maxRecDepth 100000 in
theorem convexValues_lifted (os : Os) (started : os.Started) (H : Type) (enc : TypeId × Value → H) :
    ReturnsInHanded {} Try.checked os 9 .any (Rows.convexValuesSpec.pre6 enc Try.prog Try.f9 Rows.convexValuesRow.domain false) (Rows.convexValuesSpec.post enc Try.prog Try.f9 false true false false) := by
  refine returnsInHanded_of_change (C := Try.checked) convexValues_own started (by kernel_rfl) Try.func9
    (ChangeSpec.witness6 (enc := enc) (C := Try.checked) false ⟨#[], #[.agg #[.int .i64 0, .int .i64 0, .slice none 0 0], .int .i64 0, .int .i64 0], []⟩ 8 (by kernel_rfl) (by kernel_rfl) (by kernel_rfl) (by kernel_rfl)) ?_
  intro W base args ds gs before hval0 hW hcnd _
  have hval : ∀ (j : Nat) t v, Try.f9.params[j]? = some t → args[j]? = some v → Value.okWide Try.prog W .any base t v := hval0
  have hW' : DataW.Whole enc Try.prog Try.f9.params.toList Rows.convexValuesSpec.vars false W args.toList ds gs before := hW
  exact law_post (P := Try.prog) [.st (.cons (.i .i64) (.cons (.i .i64) (.cons (.sl (.st (.cons (.i .i64) (.cons (.i .i64) .nil)))) .nil))), .i .i64, .i .i64] (by kernel_rfl) convexValues_laid (by kernel_rfl) rfl (tb := 4) rfl (by kernel_rfl) (fun ds h => by
    match ds, h with
    | [d1, d2, d3], _ => rfl) (fun x hx => cxLaw x.1.1 x.1.2.1 x.1.2.2.1.1 (fun k => (x.1.2.2.1.2 k).1) (fun k => (x.1.2.2.1.2 k).2.1) x.2.1 x.2.2.1 hx.1.2.2.1.1 hx.2.1) W args ds gs before hval hW'

theorem convexValues_holds : Rows.ConvexValuesSaid :=
  OpenClaim.holds_of_wide 9 Try.f9 rfl rfl rfl rfl rfl rfl rfl ⟨rfl, rfl, rfl, rfl, rfl⟩ rfl rfl rfl rfl rfl (by kernel_rfl) Try.func9 (by kernel_rfl)
    (of_decide_eq_true (by kernel_rfl)) (by unfold Func.isWrapper; rw [if_neg (by decide +kernel)]; exact ⟨rfl, rfl⟩)
    (fun os started H enc _ => convexValues_lifted os started H enc)

end Go.Proofs.Ytogibhkbckfgbaa
