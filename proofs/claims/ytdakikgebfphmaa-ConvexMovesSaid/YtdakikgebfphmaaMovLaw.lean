/-
  ConvexMoves holds: Restrict, Move and Turn have the values of the definitions, whatever the input.
-/
import Derived.Test.YtdakikgebfphmaaMov2
namespace Go.Proofs.Ytdakikgebfphmaa
open Go.RowKit Go.ChangeShapes Go.WideShapes

def riseP : Nat → Int := fun _ => 10
def riseQ : Nat → Int := fun k => if k = 0 then 5 else 8
def riseF (obs : List OB) (r : AV) : Prop := obs = [] ∧ ∃ f, r = .agg [intV 0, intV 0, .c (.sl 2 2 f)] ∧ Sh 2 2 f (c2 riseP riseQ)
theorem rises0 : Fn Try.prog 66 [] riseF := by
  refine fn_of_wpx (O := lex) tab_ok gamX1_ok mixed Try.func66 (by kernel_rfl) rfl rfl rfl (by simp [Try.ntmps66]) (by kernel_rfl) ?_
  conv => whnf
  repeat' (first
    | (refine NilG.mk fun bn hbn => ?_; conv => whnf)
    | (refine Both.mk ?_ ?_ <;> conv => whnf)
    | exact trivial
    | (refine Br.mk (fun hb => ?_) (fun hb => ?_) <;> (first | (exfalso; revert hb; decide) | ((try simp only [BL] at hb) <;> (try simp only [DL] at hb) <;> conv => whnf)))
    | (refine And.intro ?_ ?_; (focus (first | exact id | exact rfl | exact trivial | (intro hg; first | exact hg | exact rfl | (simp; done) | (simp at hg ⊢; assumption)) | omega | decide | exact is2_c _ _ _ | exact is1_c _ _ | exact isS_c _ _ | exact isB_c _ _ | exact Nat.le_refl _ | assumption | exact mulLe (by decide) (by omega) | exact mulLe2 (by decide) (by omega) (by omega) | (intros; simp only [BL] at *; omega) | (intros; (try simp only [BL] at *); (try simp only [DL] at *); omega) | (intros; simp only [BL] at *; rw [wr_id (by omega) (by omega)]; omega) | (intros; simp_all; done))); conv => whnf)
    | (refine Or.inr (And.intro rfl ?_); first | (refine congrArg intV ?_) | (refine congrArg boolV ?_) | (refine tupII ?_ ?_) | (refine tupIII ?_ ?_ ?_) | (refine tupU ?_ ?_ ?_ ?_ ?_) | exact rfl))
  refine .inr ⟨rfl, _, rfl, fun k hk j hj => ?_⟩
  match k, j, hk, hj with
  | 0, 0, _, _ => rfl
  | 0, 1, _, _ => rfl
  | 1, 0, _, _ => rfl
  | 1, 1, _, _ => rfl
theorem rises : Fn1 Try.prog 66 [] (cxV 0 0 2 riseP riseQ) :=
  rises0.res fun obs r ⟨h1, f, h2, h3⟩ => ⟨_, ⟨h1, rfl⟩, h2 ▸ Le1.agg (Le.cons (Le1.refl _) (Le.cons (Le1.refl _) (Le.cons (Le1.sl h3) Le.nil)))⟩
def gamX3 : Gam := fun f => match f with
  | 65 => some (sCxi (fun _ _ n _ _ _ => n ≤ maxLen) fun lo v n p q x => .tup [intV (if atE lo v n p q x = 0 then v + S (ct p q (x - lo)) n else 0), intV (atE lo v n p q x)])
  | _ => none
theorem gamX3_ok : GOk Try.prog gamX3 := fun f g h => by
  unfold gamX3 at h
  split at h
  · injection h with h; subst h; exact sCxi_ok cxAt
  · cases h
theorem rise_at : atE 0 0 2 riseP riseQ 12 = 0 ∧ (0 : Int) + S (ct riseP riseQ (12 - 0)) 2 = 66 := by decide
theorem slopes : Fn1 Try.prog 15 [] (boolV true) := by
  refine fn_of_wpx (O := lex) tab_ok gamX3_ok mixed Try.func15 (by kernel_rfl) rfl rfl rfl (by simp [Try.ntmps15]) (by kernel_rfl) ?_
  conv => whnf
  repeat' (first
    | (refine NilG.mk fun bn hbn => ?_; conv => whnf)
    | (refine Both.mk ?_ ?_ <;> conv => whnf)
    | exact trivial
    | (refine Br.mk (fun hb => ?_) (fun hb => ?_) <;> (first | (exfalso; revert hb; decide) | ((try simp only [BL] at hb) <;> (try simp only [DL] at hb) <;> conv => whnf)))
    | (refine And.intro ?_ ?_; (focus (first | exact id | exact rfl | exact trivial | (intro hg; first | exact hg | exact rfl | (simp; done) | (simp at hg ⊢; assumption)) | omega | decide | exact is2_c _ _ _ | exact is1_c _ _ | exact isS_c _ _ | exact isB_c _ _ | exact Nat.le_refl _ | assumption | exact mulLe (by decide) (by omega) | exact mulLe2 (by decide) (by omega) (by omega) | (intros; simp only [BL] at *; omega) | (intros; (try simp only [BL] at *); (try simp only [DL] at *); omega) | (intros; simp only [BL] at *; rw [wr_id (by omega) (by omega)]; omega) | (intros; simp_all; done))); conv => whnf)
    | (refine Or.inr (And.intro rfl ?_); first | (refine congrArg intV ?_) | (refine congrArg boolV ?_) | (refine tupII ?_ ?_) | (refine tupIII ?_ ?_ ?_) | (refine tupU ?_ ?_ ?_ ?_ ?_) | exact rfl))
  refine CallG.mk (Fn.mono rises ?_)
  rintro obs r ⟨rfl, rfl⟩
  conv => whnf
  repeat' (first
    | (refine NilG.mk fun bn hbn => ?_; conv => whnf)
    | (refine Both.mk ?_ ?_ <;> conv => whnf)
    | exact trivial
    | (refine Br.mk (fun hb => ?_) (fun hb => ?_) <;> (first | (exfalso; revert hb; decide) | ((try simp only [BL] at hb) <;> (try simp only [DL] at hb) <;> conv => whnf)))
    | (refine And.intro ?_ ?_; (focus (first | exact id | exact rfl | exact trivial | (intro hg; first | exact hg | exact rfl | (simp; done) | (simp at hg ⊢; assumption)) | omega | decide | exact is2_c _ _ _ | exact is1_c _ _ | exact isS_c _ _ | exact isB_c _ _ | exact Nat.le_refl _ | assumption | exact mulLe (by decide) (by omega) | exact mulLe2 (by decide) (by omega) (by omega) | (intros; simp only [BL] at *; omega) | (intros; (try simp only [BL] at *); (try simp only [DL] at *); omega) | (intros; simp only [BL] at *; rw [wr_id (by omega) (by omega)]; omega) | (intros; simp_all; done) | exact ⟨is2_c _ _ _, by decide⟩)); conv => whnf)
    | (refine Or.inr (And.intro rfl ?_); first | (refine congrArg intV ?_) | (refine congrArg boolV ?_) | (refine tupII ?_ ?_) | (refine tupIII ?_ ?_ ?_) | (refine tupU ?_ ?_ ?_ ?_ ?_) | exact rfl))
  · show (atE 0 0 2 riseP riseQ 12 == 0 && (if atE 0 0 2 riseP riseQ 12 = 0 then (0 : Int) + S (ct riseP riseQ (12 - 0)) 2 else 0) == 66) = true
    rw [rise_at.1, if_pos rfl, rise_at.2]
    rfl

theorem mvTup {bs' bs : List AV} (h : Le bs' bs) : Le1 (.tup bs') (.tup bs) := fun σ I w v hd => by
  simp only [Den] at hd ⊢
  obtain ⟨us, e, h1⟩ := hd
  exact ⟨us, e, h _ _ _ _ h1⟩
theorem mvNil {sz : Nat} {f : Nat → Nat → L} : Le1 (.c (.v (.slice none 0 0))) (.c (.sl sz 0 f)) := fun σ I w v hd => by
  simp only [Den, L.rd] at hd ⊢
  obtain ⟨rfl, _⟩ := hd
  exact ⟨none, 0, rfl, Nat.le_refl _, Nat.zero_le _, fun h => absurd h (Nat.lt_irrefl 0)⟩
theorem nulLe : Le1 nulV (cxV 0 0 0 (fun _ => 0) (fun _ => 0)) := Le1.agg (Le.cons (Le1.refl _) (Le.cons (Le1.refl _) (Le.cons mvNil Le.nil)))

/-- a function and an error: the function is f when there is no error -/
def fnE (e lo v : Int) (n : Nat) (p q : Nat → Int) (obs : List OB) (r : AV) : Prop :=
  obs = [] ∧ ∃ lo' v' n' p' q', r = .tup [cxV lo' v' n' p' q', intV e] ∧ (e = 0 → lo' = lo ∧ v' = v ∧ n' = n ∧ p' = p ∧ q' = q)
theorem moveR (lo v : Int) (n : Nat) (p q : Nat → Int) (x y : Int) (hn : n ≤ maxLen) : Fn Try.prog 17 [cxV lo v n p q, intV x, intV y] (fnE (moveE lo v n p q x y) (lo + x) (v + y) n p q) :=
  (cxMove lo v n p q x y hn).res fun obs r ⟨h1, h2⟩ => by
    rcases h2 with ⟨h2, rfl⟩ | ⟨h2, rfl⟩
    · exact ⟨_, ⟨h1, _, _, _, _, _, rfl, fun h => absurd h h2⟩, mvTup (Le.cons nulLe (Le.cons (Le1.refl _) Le.nil))⟩
    · exact ⟨_, ⟨h1, _, _, _, _, _, rfl, fun _ => ⟨rfl, rfl, rfl, rfl, rfl⟩⟩, by rw [h2]; exact Le1.refl _⟩
theorem turnR (lo v : Int) (n : Nat) (p q : Nat → Int) (hn : n ≤ maxLen) : Fn Try.prog 18 [cxV lo v n p q] (fnE (cxE lo v n p q) (-(lo + S p n)) (cW v n p q (S p n).toNat) n (rvP n p) (rvQ n q)) :=
  (cxTurn lo v n p q hn).res fun obs r ⟨h1, h2⟩ => by
    rcases h2 with ⟨h2, rfl⟩ | ⟨h2, rfl⟩
    · exact ⟨_, ⟨h1, _, _, _, _, _, rfl, fun h => absurd h h2⟩, mvTup (Le.cons nulLe (Le.cons (Le1.refl _) Le.nil))⟩
    · exact ⟨_, ⟨h1, _, _, _, _, _, rfl, fun _ => ⟨rfl, rfl, rfl, rfl, rfl⟩⟩, by rw [h2]; exact Le1.refl _⟩
def restE (lo v : Int) (n : Nat) (p q : Nat → Int) (low e : Int) : Int := if cxE lo v n p q ≠ 0 then cxE lo v n p q else if rsL lo low > rsE lo n p e then 8 else 0
def rsLn (lo low : Int) : Nat := (rsL lo low - lo).toNat
def rsEn (lo : Int) (n : Nat) (p : Nat → Int) (e : Int) : Nat := (rsE lo n p e - lo).toNat
theorem restR (lo v : Int) (n : Nat) (p q : Nat → Int) (low e : Int) (hn : n ≤ maxLen) : Fn Try.prog 16 [cxV lo v n p q, intV low, intV e] (fnE (restE lo v n p q low e) (lo + rsLn lo low) (cW v n p q (rsLn lo low)) (cn p (rsLn lo low) (rsEn lo n p e) n) (fun j => ln p (rsLn lo low) (rsEn lo n p e) (cA p (rsLn lo low) (rsEn lo n p e) n + j)) (fun j => q (cA p (rsLn lo low) (rsEn lo n p e) n + j))) :=
  (cxRestrict lo v n p q low e hn).res fun obs r ⟨h1, h2⟩ => by
    rcases h2 with ⟨h2, rfl⟩ | ⟨h2, h3, rfl⟩ | ⟨h2, h3, L, E, hL, hE, rfl⟩
    · have hE : restE lo v n p q low e = cxE lo v n p q := if_pos h2
      exact ⟨_, ⟨h1, _, _, _, _, _, rfl, fun h => absurd (hE.symm.trans h) h2⟩, by rw [hE]; exact mvTup (Le.cons nulLe (Le.cons (Le1.refl _) Le.nil))⟩
    · have hE : restE lo v n p q low e = 8 := by unfold restE; rw [if_neg (fun h => h h2), if_pos h3]
      exact ⟨_, ⟨h1, _, _, _, _, _, rfl, fun h => absurd (hE.symm.trans h) (by decide)⟩, by rw [hE]; exact mvTup (Le.cons nulLe (Le.cons (Le1.refl _) Le.nil))⟩
    · have hR : restE lo v n p q low e = 0 := by unfold restE; rw [if_neg (fun h => h h2), if_neg (by omega)]
      obtain rfl : L = rsLn lo low := by unfold rsLn; omega
      obtain rfl : E = rsEn lo n p e := by unfold rsEn; omega
      exact ⟨_, ⟨h1, _, _, _, _, _, rfl, fun _ => ⟨rfl, rfl, rfl, rfl, rfl⟩⟩, by rw [hR]; exact Le1.refl _⟩

def sSV : List AV → Sd × AV
  | [.agg [.c (.v (.int .i64 lo)), .c (.v (.int .i64 v)), .c (.sl 2 n f)], .c (.v (.int .i64 low)), .c (.sl 1 m g)] => (.p (is2 n f ∧ is1 m g ∧ okCx lo v n (d0 f) (d1 f) ∧ lo = low ∧ m = cxT n (d0 f) + 1 ∧ ∀ i, i < m → d0 g i = cW v n (d0 f) (d1 f) i), boolV true)
  | _ => (.p False, .top)
def gamXL : Gam := fun f => match f with
  | 15 => some fun args => match args with
    | [] => (.t, boolV true)
    | _ => (.p False, .top)
  | 19 => some (sCx (fun _ _ n _ _ => n ≤ maxLen) fun lo v n p q => intV (cxE lo v n p q))
  | 21 => some sSV
  | 22 => some (s3 inB)
  | _ => none
theorem gamXL_ok : GOk Try.prog gamXL := fun f g h => by
  unfold gamXL at h
  split at h
  · injection h with h; subst h
    intro args hs _
    cases args with
    | nil => exact slopes
    | cons _ _ => exact hs.elim
  · injection h with h; subst h; exact sCx_ok cxErr
  · injection h with h; subst h
    intro args hs _
    unfold sSV at hs ⊢
    split at hs
    · exact (sameVals _ _ _ _ _ _ _ _ hs.2.2.1 hs.2.2.2.1 hs.2.2.2.2.1 hs.2.2.2.2.2).le (Le.cons (cxV_le hs.1) (Le.cons (Le1.refl _) (Le.cons (Le1.sl hs.2.1) Le.nil)))
    · exact hs.elim
  · injection h with h; subst h; exact s3_ok in3
  · cases h

set_option maxHeartbeats 4000000 in
theorem mvLaw (lo v : Int) (n : Nat) (p q : Nat → Int) (low e x y : Int) (hn : n ≤ maxLen) (hlw : -9223372036854775808 ≤ low ∧ low ≤ 9223372036854775807) : Fn1 Try.prog 3 [cxV lo v n p q, intV low, intV e, intV x, intV y] (boolV true) := by
  refine fn_of_wpx (O := lex) tab_ok gamXL_ok mixed Try.func3 (by kernel_rfl) rfl rfl rfl (by simp [Try.ntmps3]) (by kernel_rfl) ?_
  conv => whnf
  repeat' (first
    | (refine NilG.mk fun bn hbn => ?_; conv => whnf)
    | (refine Both.mk ?_ ?_ <;> conv => whnf)
    | exact trivial
    | (refine Br.mk (fun hb => ?_) (fun hb => ?_) <;> (first | (exfalso; revert hb; decide) | ((try simp only [BL] at hb) <;> (try simp only [DL] at hb) <;> conv => whnf)))
    | (refine And.intro ?_ ?_; (focus (first | exact id | exact rfl | exact trivial | (intro hg; first | exact hg | exact rfl | (simp; done) | (simp at hg ⊢; assumption)) | omega | decide | exact is2_c _ _ _ | exact is1_c _ _ | exact isS_c _ _ | exact isB_c _ _ | exact Nat.le_refl _ | assumption | exact mulLe (by decide) (by omega) | exact mulLe2 (by decide) (by omega) (by omega) | (intros; simp only [BL] at *; omega) | (intros; (try simp only [BL] at *); (try simp only [DL] at *); omega) | (intros; simp only [BL] at *; rw [wr_id (by omega) (by omega)]; omega) | (intros; simp_all; done) | exact ⟨is2_c _ _ _, hn⟩)); conv => whnf)
    | (refine Or.inr (And.intro rfl ?_); first | (refine congrArg intV ?_) | (refine congrArg boolV ?_) | (refine tupII ?_ ?_) | (refine tupIII ?_ ?_ ?_) | (refine tupU ?_ ?_ ?_ ?_ ?_) | exact rfl))
  refine CallG.mk (Fn.mono (restR lo v n p q low e hn) ?_)
  rintro obs r ⟨rfl, rlo, rv, rn, rp, rq, rfl, hr⟩
  conv => whnf
  repeat' (first
    | (refine NilG.mk fun bn hbn => ?_; conv => whnf)
    | (refine Both.mk ?_ ?_ <;> conv => whnf)
    | exact trivial
    | (refine Br.mk (fun hb => ?_) (fun hb => ?_) <;> (first | (exfalso; revert hb; decide) | ((try simp only [BL] at hb) <;> (try simp only [DL] at hb) <;> conv => whnf)))
    | (refine And.intro ?_ ?_; (focus (first | exact id | exact rfl | exact trivial | (intro hg; first | exact hg | exact rfl | (simp; done) | (simp at hg ⊢; assumption)) | omega | decide | exact is2_c _ _ _ | exact is1_c _ _ | exact isS_c _ _ | exact isB_c _ _ | exact Nat.le_refl _ | assumption | exact mulLe (by decide) (by omega) | exact mulLe2 (by decide) (by omega) (by omega) | (intros; simp only [BL] at *; omega) | (intros; (try simp only [BL] at *); (try simp only [DL] at *); omega) | (intros; simp only [BL] at *; rw [wr_id (by omega) (by omega)]; omega) | (intros; simp_all; done) | exact ⟨is2_c _ _ _, hn⟩)); conv => whnf)
    | (refine Or.inr (And.intro rfl ?_); first | (refine congrArg intV ?_) | (refine congrArg boolV ?_) | (refine tupII ?_ ?_) | (refine tupIII ?_ ?_ ?_) | (refine tupU ?_ ?_ ?_ ?_ ?_) | exact rfl))
  refine CallG.mk (Fn.mono (moveR lo v n p q x y hn) ?_)
  rintro obs r ⟨rfl, mlo, mv, mn, mp, mq, rfl, hm⟩
  conv => whnf
  repeat' (first
    | (refine NilG.mk fun bn hbn => ?_; conv => whnf)
    | (refine Both.mk ?_ ?_ <;> conv => whnf)
    | exact trivial
    | (refine Br.mk (fun hb => ?_) (fun hb => ?_) <;> (first | (exfalso; revert hb; decide) | ((try simp only [BL] at hb) <;> (try simp only [DL] at hb) <;> conv => whnf)))
    | (refine And.intro ?_ ?_; (focus (first | exact id | exact rfl | exact trivial | (intro hg; first | exact hg | exact rfl | (simp; done) | (simp at hg ⊢; assumption)) | omega | decide | exact is2_c _ _ _ | exact is1_c _ _ | exact isS_c _ _ | exact isB_c _ _ | exact Nat.le_refl _ | assumption | exact mulLe (by decide) (by omega) | exact mulLe2 (by decide) (by omega) (by omega) | (intros; simp only [BL] at *; omega) | (intros; (try simp only [BL] at *); (try simp only [DL] at *); omega) | (intros; simp only [BL] at *; rw [wr_id (by omega) (by omega)]; omega) | (intros; simp_all; done) | exact ⟨is2_c _ _ _, hn⟩)); conv => whnf)
    | (refine Or.inr (And.intro rfl ?_); first | (refine congrArg intV ?_) | (refine congrArg boolV ?_) | (refine tupII ?_ ?_) | (refine tupIII ?_ ?_ ?_) | (refine tupU ?_ ?_ ?_ ?_ ?_) | exact rfl))
  refine CallG.mk (Fn.mono (turnR lo v n p q hn) ?_)
  rintro obs r ⟨rfl, tlo, tv, tn, tp, tq, rfl, ht⟩
  conv => whnf
  repeat' (first
    | (refine NilG.mk fun bn hbn => ?_; conv => whnf)
    | (refine Both.mk ?_ ?_ <;> conv => whnf)
    | exact trivial
    | (refine Br.mk (fun hb => ?_) (fun hb => ?_) <;> (first | (exfalso; revert hb; decide) | ((try simp only [BL] at hb) <;> (try simp only [DL] at hb) <;> conv => whnf)))
    | (refine And.intro ?_ ?_; (focus (first | exact id | exact rfl | exact trivial | (intro hg; first | exact hg | exact rfl | (simp; done) | (simp at hg ⊢; assumption)) | omega | decide | exact is2_c _ _ _ | exact is1_c _ _ | exact isS_c _ _ | exact isB_c _ _ | exact Nat.le_refl _ | assumption | exact mulLe (by decide) (by omega) | exact mulLe2 (by decide) (by omega) (by omega) | (intros; simp only [BL] at *; omega) | (intros; (try simp only [BL] at *); (try simp only [DL] at *); omega) | (intros; simp only [BL] at *; rw [wr_id (by omega) (by omega)]; omega) | (intros; simp_all; done) | exact ⟨is2_c _ _ _, hn⟩)); conv => whnf)
    | (refine Or.inr (And.intro rfl ?_); first | (refine congrArg intV ?_) | (refine congrArg boolV ?_) | (refine tupII ?_ ?_) | (refine tupIII ?_ ?_ ?_) | (refine tupU ?_ ?_ ?_ ?_ ?_) | exact rfl))
  · show (restE lo v n p q low e == cxE lo v n p q && moveE lo v n p q x y == cxE lo v n p q && cxE lo v n p q == cxE lo v n p q) = true
    have h1 : restE lo v n p q low e = cxE lo v n p q := if_pos hb
    have h2 : moveE lo v n p q x y = cxE lo v n p q := if_pos hb
    rw [h1, h2]
    simp
  have h0 : cxE lo v n p q = 0 := hb
  have h := cxE_zero h0
  have hbn := h.2
  have hn64 := h.1
  have hSn := h.sS (Nat.le_refl n)
  clear hb
  refine sem_loop tab_ok gamXL_ok mixed (by kernel_rfl) (O := lex) (fun i : Nat => ⟨[(1, intV low), (2, intV e), (3, intV x), (4, intV y), (5, .lp 0 0), (11, .lp 1 0), (12, intV (restE lo v n p q low e)), (13, .lp 2 0), (14, intV (moveE lo v n p q x y)), (15, .lp 3 0), (16, intV 0), (18, intV (S p i)), (69, .c (.sl 2 n (c2 p q))), (70, intV n), (71, intV i)], [.box [intV lo, intV v, .c (.sl 2 n (c2 p q))], .box [intV rlo, intV rv, .c (.sl 2 rn (c2 rp rq))], .box [intV mlo, intV mv, .c (.sl 2 mn (c2 mp mq))], .box [intV tlo, intV tv, .c (.sl 2 tn (c2 tp tq))]]⟩) (fun i => i ≤ n) (fun i => n - i) ⟨0, [?_, ?_, ?_, ?_], Nat.zero_le _, ?_⟩ fun i hi => ?_
  rotate_left 4
  · refine Sub.of ?_ ?_ ?_
    repeat' (first | (refine And.intro ?_ ?_) | exact trivial | (exact congrArg intV (by assumption)) | (refine congrArg intV ((wr_id (by omega) (by omega)).trans (by omega))) | exact rfl | (simp only [Int.toNat_natCast, Int.toNat_zero, Nat.sub_zero, Nat.zero_add]; first | exact rfl | done) | exact all0 | exact fun h => Bool.noConfusion h | exact fun _ _ _ _ => rfl | omega)
  have hSi := h.sS hi
  conv => whnf
  repeat' (first
    | (refine NilG.mk fun bn hbn => ?_; conv => whnf)
    | (refine Both.mk ?_ ?_ <;> conv => whnf)
    | exact trivial
    | (refine Br.mk (fun hb => ?_) (fun hb => ?_) <;> (first | (exfalso; revert hb; decide) | ((try simp only [BL] at hb) <;> (try simp only [DL] at hb) <;> conv => whnf)))
    | (refine And.intro ?_ ?_; (focus (first | exact id | exact rfl | exact trivial | (intro hg; first | exact hg | exact rfl | (simp; done) | (simp at hg ⊢; assumption)) | omega | decide | exact is2_c _ _ _ | exact is1_c _ _ | exact isS_c _ _ | exact isB_c _ _ | exact Nat.le_refl _ | assumption | exact mulLe (by decide) (by omega) | exact mulLe2 (by decide) (by omega) (by omega) | (intros; simp only [BL] at *; omega) | (intros; (try simp only [BL] at *); (try simp only [DL] at *); omega) | (intros; simp only [BL] at *; rw [wr_id (by omega) (by omega)]; omega) | (intros; simp_all; done))); conv => whnf)
    | (refine Or.inr (And.intro rfl ?_); first | (refine congrArg intV ?_) | (refine congrArg boolV ?_) | (refine tupII ?_ ?_) | (refine tupIII ?_ ?_ ?_) | (refine tupU ?_ ?_ ?_ ?_ ?_) | exact rfl))
  · have hS1 := h.sS (k := i + 1) (by omega)
    have e1 : IntKind.i64.wrap (S p i + p i) = S p (i + 1) := wr_id (by simp only [S] at hS1; omega) (by simp only [S] at hS1; omega)
    refine ⟨i + 1, [?_, ?_, ?_, ?_], by omega, by omega, ?_⟩
    rotate_left 4
    refine Sub.of ?_ ?_ ?_
    repeat' (first | (refine And.intro ?_ ?_) | exact trivial | (exact congrArg intV (by assumption)) | (refine congrArg intV ((wr_id (by omega) (by omega)).trans (by omega))) | exact rfl | (simp only [Int.toNat_natCast, Int.toNat_zero, Nat.sub_zero, Nat.zero_add]; first | exact rfl | done) | exact all0 | exact fun h => Bool.noConfusion h | exact fun _ _ _ _ => rfl | omega)
  · rfl
  have hT60 : S p n ≤ 60 := by
    have : i = n := by omega
    rw [← this]; omega
  have hT : (cxT n p : Int) = S p n := by unfold cxT; omega
  clear hb
  refine CallG.mk (Fn.mono (cxValues lo v n p q h) ?_)
  rintro obs r ⟨rfl, rfl⟩
  conv => whnf
  repeat' (first
    | (refine NilG.mk fun bn hbn => ?_; conv => whnf)
    | (refine Both.mk ?_ ?_ <;> conv => whnf)
    | exact trivial
    | (refine Br.mk (fun hb => ?_) (fun hb => ?_) <;> (first | (exfalso; revert hb; decide) | ((try simp only [BL] at hb) <;> (try simp only [DL] at hb) <;> conv => whnf)))
    | (refine And.intro ?_ ?_; (focus (first | exact id | exact rfl | exact trivial | (intro hg; first | exact hg | exact rfl | (simp; done) | (simp at hg ⊢; assumption)) | omega | decide | exact is2_c _ _ _ | exact is1_c _ _ | exact isS_c _ _ | exact isB_c _ _ | exact Nat.le_refl _ | assumption | exact mulLe (by decide) (by omega) | exact mulLe2 (by decide) (by omega) (by omega) | (intros; simp only [BL] at *; omega) | (intros; (try simp only [BL] at *); (try simp only [DL] at *); omega) | (intros; simp only [BL] at *; rw [wr_id (by omega) (by omega)]; omega) | (intros; simp_all; done))); conv => whnf)
    | (refine Or.inr (And.intro rfl ?_); first | (refine congrArg intV ?_) | (refine congrArg boolV ?_) | (refine tupII ?_ ?_) | (refine tupIII ?_ ?_ ?_) | (refine tupU ?_ ?_ ?_ ?_ ?_) | exact rfl))
  refine LoopG.nil 22 3 1 rfl ?_
  refine sem_loop tab_ok gamXL_ok mixed (by kernel_rfl) (O := lex) (fun i : Nat => ⟨[(2, intV e), (3, intV x), (4, intV y), (5, .lp 0 0), (11, .lp 1 0), (12, intV (restE lo v n p q low e)), (13, .lp 2 0), (14, intV (moveE lo v n p q x y)), (15, .lp 3 0), (16, intV 0), (21, .c (.sl 1 (cxT n p + 1) (c1 (cW v n p q)))), (22, .own 4), (23, .c (.v (.slice none 0 0))), (24, intV (max low lo)), (25, intV (max low lo + i))], [.box [intV lo, intV v, .c (.sl 2 n (c2 p q))], .box [intV rlo, intV rv, .c (.sl 2 rn (c2 rp rq))], .box [intV mlo, intV mv, .c (.sl 2 mn (c2 mp mq))], .box [intV tlo, intV tv, .c (.sl 2 tn (c2 tp tq))], .row 3 1 i false (c1 (fun j => cW v n p q (rsLn lo low + j)))]⟩) (fun i => (i : Int) ≤ max 0 (min (lo + S p n) e - max low lo + 1)) (fun i => 62 - i) ⟨0, [?_, ?_, ?_, ?_, ?_], by omega, ?_⟩ fun i hi => ?_
  rotate_left 5
  · refine Sub.of ?_ ?_ ?_
    repeat' (first | (refine And.intro ?_ ?_) | exact trivial | (exact congrArg intV (by assumption)) | (refine congrArg intV ((wr_id (by omega) (by omega)).trans (by omega))) | exact rfl | (simp only [Int.toNat_natCast, Int.toNat_zero, Nat.sub_zero, Nat.zero_add]; first | exact rfl | done) | exact all0 | exact fun h => Bool.noConfusion h | exact fun _ _ _ _ => rfl | omega)
    · exact congrArg intV (by omega)
  have eL : (rsLn lo low : Int) = max low lo - lo := by unfold rsLn rsL; omega
  have hw : IntKind.i64.wrap (lo + ((cxT n p + 1 : Nat) : Int)) = lo + S p n + 1 := (wr_id (by omega) (by omega)).trans (by omega)
  conv => whnf
  repeat' (first
    | (refine NilG.mk fun bn hbn => ?_; conv => whnf)
    | (refine Both.mk ?_ ?_ <;> conv => whnf)
    | exact trivial
    | (refine Br.mk (fun hb => ?_) (fun hb => ?_) <;> (first | (exfalso; revert hb; decide) | ((try simp only [BL] at hb) <;> (try simp only [DL] at hb) <;> conv => whnf)))
    | (refine And.intro ?_ ?_; (focus (first | exact id | exact rfl | exact trivial | (intro hg; first | exact hg | exact rfl | (simp; done) | (simp at hg ⊢; assumption)) | omega | decide | exact is2_c _ _ _ | exact is1_c _ _ | exact isS_c _ _ | exact isB_c _ _ | exact Nat.le_refl _ | assumption | exact mulLe (by decide) (by omega) | exact mulLe2 (by decide) (by omega) (by omega) | (intros; simp only [BL] at *; omega) | (intros; (try simp only [BL] at *); (try simp only [DL] at *); omega) | (intros; simp only [BL] at *; rw [wr_id (by omega) (by omega)]; omega) | (intros; simp_all; done) | (refine ⟨?_, ?_⟩ <;> (rw [wr_id (by omega) (by omega)]; omega)))); conv => whnf)
    | (refine Or.inr (And.intro rfl ?_); first | (refine congrArg intV ?_) | (refine congrArg boolV ?_) | (refine tupII ?_ ?_) | (refine tupIII ?_ ?_ ?_) | (refine tupU ?_ ?_ ?_ ?_ ?_) | exact rfl))
  · have ek : (IntKind.i64.wrap (max low lo + (i : Int) - lo)).toNat = rsLn lo low + i := by rw [wr_id (by omega) (by omega)]; omega
    refine ⟨i + 1, [?_, ?_, ?_, ?_, ?_], by omega, by omega, ?_⟩
    rotate_left 5
    refine Sub.of ?_ ?_ ?_
    repeat' (first | (refine And.intro ?_ ?_) | exact trivial | (exact congrArg intV (by assumption)) | (refine congrArg intV ((wr_id (by omega) (by omega)).trans (by omega))) | exact rfl | (simp only [Int.toNat_natCast, Int.toNat_zero, Nat.sub_zero, Nat.zero_add]; first | exact rfl | done) | exact all0 | exact fun h => Bool.noConfusion h | exact fun _ _ _ _ => rfl | omega)
    intro aq haq bq hbq
    by_cases hltq : aq < i
    · exact if_pos hltq
    · obtain rfl : aq = i := by omega
      refine (if_neg hltq).trans ?_
      rw [Nat.sub_self]
      revert bq hbq
      refine all1 (congrArg (fun z => L.v (.int .i64 (cW v n p q z))) ek)
  · rename_i hex hz
    exfalso
    refine hb ?_
    unfold restE
    rw [if_neg (fun h => h h0), if_pos]
    unfold rsL rsE
    omega
  rotate_left
  · rename_i hex
    have hgt : ¬ rsL lo low > rsE lo n p e := by unfold rsL rsE; omega
    have hr0 : restE lo v n p q low e = 0 := by unfold restE; rw [if_neg (fun h => h h0), if_neg hgt]
    obtain ⟨rfl, rfl, rfl, rfl, rfl⟩ := hr hr0
    have eE : (rsEn lo n p e : Int) = min (lo + S p n) e - lo := by unfold rsEn rsE; omega
    have hLE : rsLn lo low ≤ rsEn lo n p e := by omega
    have hET : (rsEn lo n p e : Int) ≤ S p n := by omega
    have hcT := cut_T (p := p) (n := n) (L := (rsLn lo low : Int)) (E := (rsEn lo n p e : Int)) h.pos (by omega) (by omega) hET
    refine And.intro (fun _ => ⟨is2_c _ _ _, is1_c _ _, cut_ok h hLE hET, by omega, ?_, fun j hj => (cut_W h hLE hET j (by omega)).symm⟩) ?_
    · show i = (S _ _).toNat + 1
      rw [show S (d0 (c2 (fun j => ln p (rsLn lo low) (rsEn lo n p e) (cA p (rsLn lo low) (rsEn lo n p e) n + j)) (fun j => q (cA p (rsLn lo low) (rsEn lo n p e) n + j)))) (cn p (rsLn lo low) (rsEn lo n p e) n) = (rsEn lo n p e : Int) - rsLn lo low from hcT]
      omega
    conv => whnf
    repeat' (first
      | (refine NilG.mk fun bn hbn => ?_; conv => whnf)
      | (refine Both.mk ?_ ?_ <;> conv => whnf)
      | exact trivial
      | (refine Br.mk (fun hb => ?_) (fun hb => ?_) <;> (first | (exfalso; revert hb; decide) | ((try simp only [BL] at hb) <;> (try simp only [DL] at hb) <;> conv => whnf)))
      | (refine And.intro ?_ ?_; (focus (first | exact id | exact rfl | exact trivial | (intro hg; first | exact hg | exact rfl | (simp; done) | (simp at hg ⊢; assumption)) | omega | decide | exact is2_c _ _ _ | exact is1_c _ _ | exact isS_c _ _ | exact isB_c _ _ | exact Nat.le_refl _ | assumption | exact mulLe (by decide) (by omega) | exact mulLe2 (by decide) (by omega) (by omega) | (intros; simp only [BL] at *; omega) | (intros; (try simp only [BL] at *); (try simp only [DL] at *); omega) | (intros; simp only [BL] at *; rw [wr_id (by omega) (by omega)]; omega) | (intros; simp_all; done))); conv => whnf)
      | (refine Or.inr (And.intro rfl ?_); first | (refine congrArg intV ?_) | (refine congrArg boolV ?_) | (refine tupII ?_ ?_) | (refine tupIII ?_ ?_ ?_) | (refine tupU ?_ ?_ ?_ ?_ ?_) | exact rfl))
    · rcases hb with hb | hb
      · exact absurd hr0 hb
      · cases hb
    clear hb
    refine LoopG.nil 23 3 1 rfl ?_
    refine sem_loop tab_ok gamXL_ok mixed (by kernel_rfl) (O := lex) (fun j : Nat => ⟨[(3, intV x), (4, intV y), (5, .lp 0 0), (13, .lp 1 0), (14, intV (moveE lo v n p q x y)), (15, .lp 2 0), (16, intV 0), (21, .c (.sl 1 (cxT n p + 1) (c1 (cW v n p q)))), (23, .own 3), (128, intV ((cxT n p + 1 : Nat) : Int)), (129, intV j)], [.box [intV lo, intV v, .c (.sl 2 n (c2 p q))], .box [intV mlo, intV mv, .c (.sl 2 mn (c2 mp mq))], .box [intV tlo, intV tv, .c (.sl 2 tn (c2 tp tq))], .row 3 1 j false (c1 (fun k => cW v n p q (cxT n p - k)))]⟩) (fun j => j ≤ cxT n p + 1) (fun j => cxT n p + 1 - j) ⟨0, [?_, ?_, ?_, ?_], Nat.zero_le _, ?_⟩ fun j hj => ?_
    rotate_left 4
    · refine Sub.of ?_ ?_ ?_
      repeat' (first | (refine And.intro ?_ ?_) | exact trivial | (exact congrArg intV (by assumption)) | (refine congrArg intV ((wr_id (by omega) (by omega)).trans (by omega))) | exact rfl | (simp only [Int.toNat_natCast, Int.toNat_zero, Nat.sub_zero, Nat.zero_add]; first | exact rfl | done) | exact all0 | exact fun h => Bool.noConfusion h | exact fun _ _ _ _ => rfl | omega)
    obtain ⟨rfl, rfl, t3, rfl, rfl⟩ := ht h0
    obtain rfl := t3.symm
    have e0 : IntKind.i64.wrap (((cxT n p + 1 : Nat) : Int) - 1) = cxT n p := (wr_id (by omega) (by omega)).trans (by omega)
    have e1 : j < cxT n p + 1 → IntKind.i64.wrap (IntKind.i64.wrap (((cxT n p + 1 : Nat) : Int) - 1) - (j : Int)) = (cxT n p : Int) - j := fun hh => by rw [e0]; exact wr_id (by omega) (by omega)
    have hTr : S (rvP n p) n = S p n := by have h9 := rev_S (n := n) (p := p) n (Nat.le_refl n); rw [Nat.sub_self] at h9; exact (Int.add_zero _).symm.trans h9
    have hw2 : IntKind.i64.wrap (IntKind.i64.wrap (1 - lo) - ((cxT n p + 1 : Nat) : Int)) = -(lo + S p n) := by rw [wr_id (x := 1 - lo) (by omega) (by omega)]; exact (wr_id (by omega) (by omega)).trans (by omega)
    conv => whnf
    repeat' (first
      | (refine NilG.mk fun bn hbn => ?_; conv => whnf)
      | (refine Both.mk ?_ ?_ <;> conv => whnf)
      | exact trivial
      | (refine Br.mk (fun hb => ?_) (fun hb => ?_) <;> (first | (exfalso; revert hb; decide) | ((try simp only [BL] at hb) <;> (try simp only [DL] at hb) <;> conv => whnf)))
      | (refine And.intro ?_ ?_; (focus (first | exact id | exact rfl | exact trivial | (intro hg; first | exact hg | exact rfl | (simp; done) | (simp at hg ⊢; assumption)) | omega | decide | exact is2_c _ _ _ | exact is1_c _ _ | exact isS_c _ _ | exact isB_c _ _ | exact Nat.le_refl _ | assumption | exact mulLe (by decide) (by omega) | exact mulLe2 (by decide) (by omega) (by omega) | (intros; simp only [BL] at *; omega) | (intros; (try simp only [BL] at *); (try simp only [DL] at *); omega) | (intros; simp only [BL] at *; rw [wr_id (by omega) (by omega)]; omega) | (intros; simp_all; done) | first | (rw [e1 (by omega)]; omega) | exact fun _ => ⟨is2_c _ _ _, is1_c _ _, turn_ok h, hw2.symm, show j = (S (rvP n p) n).toNat + 1 by rw [hTr]; unfold cxT at *; omega, fun k hk => ((turn_W h k (by omega)).trans (congrArg (fun z => cW v n p q (z - k)) rfl)).symm⟩)); conv => whnf)
      | (refine Or.inr (And.intro rfl ?_); first | (refine congrArg intV ?_) | (refine congrArg boolV ?_) | (refine tupII ?_ ?_) | (refine tupIII ?_ ?_ ?_) | (refine tupU ?_ ?_ ?_ ?_ ?_) | exact rfl))
    · have ek : (IntKind.i64.wrap (IntKind.i64.wrap (((cxT n p + 1 : Nat) : Int) - 1) - (j : Int))).toNat = cxT n p - j := by rw [e1 (by omega)]; omega
      refine ⟨j + 1, [?_, ?_, ?_, ?_], by omega, by omega, ?_⟩
      rotate_left 4
      refine Sub.of ?_ ?_ ?_
      repeat' (first | (refine And.intro ?_ ?_) | exact trivial | (exact congrArg intV (by assumption)) | (refine congrArg intV ((wr_id (by omega) (by omega)).trans (by omega))) | exact rfl | (simp only [Int.toNat_natCast, Int.toNat_zero, Nat.sub_zero, Nat.zero_add]; first | exact rfl | done) | exact all0 | exact fun h => Bool.noConfusion h | exact fun _ _ _ _ => rfl | omega)
      intro aq haq bq hbq
      by_cases hltq : aq < j
      · exact if_pos hltq
      · obtain rfl : aq = j := by omega
        refine (if_neg hltq).trans ?_
        rw [Nat.sub_self]
        revert bq hbq
        refine all1 (congrArg (fun z => L.v (.int .i64 (cW v n p q z))) ek)
    · have hM : moveE lo v n p q x y = 4 := by
        unfold moveE
        rw [if_neg (fun h => h h0), if_pos]
        simp only [outM, inB, Bool.not_eq_true', Bool.and_eq_false_iff, decide_eq_false_iff_not]
        omega
      rw [hM]
      rfl
    have hxy := hb
    have hM : moveE lo v n p q x y = if cxE (lo + x) (v + y) n p q ≠ 0 then 2 else 0 := by
      unfold moveE
      rw [if_neg (fun h => h h0), if_neg]
      simp only [outM, inB, Bool.not_eq_true', Bool.and_eq_false_iff, decide_eq_false_iff_not]
      omega
    clear hb
    refine LoopG.nil 27 3 1 rfl ?_
    refine sem_loop tab_ok gamXL_ok mixed (by kernel_rfl) (O := lex) (fun k : Nat => ⟨[(3, intV x), (4, intV y), (5, .lp 0 0), (13, .lp 1 0), (14, intV (moveE lo v n p q x y)), (27, .own 2), (168, .c (.sl 1 (cxT n p + 1) (c1 (cW v n p q)))), (169, intV ((cxT n p + 1 : Nat) : Int)), (170, intV k)], [.box [intV lo, intV v, .c (.sl 2 n (c2 p q))], .box [intV mlo, intV mv, .c (.sl 2 mn (c2 mp mq))], .row 3 1 k false (c1 (fun z => cW v n p q z + y))]⟩) (fun k => k ≤ cxT n p + 1) (fun k => cxT n p + 1 - k) ⟨0, [?_, ?_, ?_], Nat.zero_le _, ?_⟩ fun k hk => ?_
    rotate_left 3
    · refine Sub.of ?_ ?_ ?_
      repeat' (first | (refine And.intro ?_ ?_) | exact trivial | (exact congrArg intV (by assumption)) | (refine congrArg intV ((wr_id (by omega) (by omega)).trans (by omega))) | exact rfl | (simp only [Int.toNat_natCast, Int.toNat_zero, Nat.sub_zero, Nat.zero_add]; first | exact rfl | done) | exact all0 | exact fun h => Bool.noConfusion h | exact fun _ _ _ _ => rfl | omega)
    have hcW := cW_le h k
    conv => whnf
    repeat' (first
      | (refine NilG.mk fun bn hbn => ?_; conv => whnf)
      | (refine Both.mk ?_ ?_ <;> conv => whnf)
      | exact trivial
      | (refine Br.mk (fun hb => ?_) (fun hb => ?_) <;> (first | (exfalso; revert hb; decide) | ((try simp only [BL] at hb) <;> (try simp only [DL] at hb) <;> conv => whnf)))
      | (refine And.intro ?_ ?_; (focus (first | exact id | exact rfl | exact trivial | (intro hg; first | exact hg | exact rfl | (simp; done) | (simp at hg ⊢; assumption)) | omega | decide | exact is2_c _ _ _ | exact is1_c _ _ | exact isS_c _ _ | exact isB_c _ _ | exact Nat.le_refl _ | assumption | exact mulLe (by decide) (by omega) | exact mulLe2 (by decide) (by omega) (by omega) | (intros; simp only [BL] at *; omega) | (intros; (try simp only [BL] at *); (try simp only [DL] at *); omega) | (intros; simp only [BL] at *; rw [wr_id (by omega) (by omega)]; omega) | (intros; simp_all; done))); conv => whnf)
      | (refine Or.inr (And.intro rfl ?_); first | (refine congrArg intV ?_) | (refine congrArg boolV ?_) | (refine tupII ?_ ?_) | (refine tupIII ?_ ?_ ?_) | (refine tupU ?_ ?_ ?_ ?_ ?_) | exact rfl))
    · have e7 : IntKind.i64.wrap (cW v n p q k + y) = cW v n p q k + y := wr_id (by omega) (by omega)
      refine ⟨k + 1, [?_, ?_, ?_], by omega, by omega, ?_⟩
      rotate_left 3
      refine Sub.of ?_ ?_ ?_
      repeat' (first | (refine And.intro ?_ ?_) | exact trivial | (exact congrArg intV (by assumption)) | (refine congrArg intV ((wr_id (by omega) (by omega)).trans (by omega))) | exact rfl | (simp only [Int.toNat_natCast, Int.toNat_zero, Nat.sub_zero, Nat.zero_add]; first | exact rfl | done) | exact all0 | exact fun h => Bool.noConfusion h | exact fun _ _ _ _ => rfl | omega)
      intro aq haq bq hbq
      by_cases hltq : aq < k
      · exact if_pos hltq
      · obtain rfl : aq = k := by omega
        refine (if_neg hltq).trans ?_
        rw [Nat.sub_self]
        revert bq hbq
        refine all1 (congrArg (fun z => L.v (.int .i64 z)) e7)
    refine And.intro (fun hg => ?_) ?_
    · have hm0 : moveE lo v n p q x y = 0 := by
        rw [Bool.and_eq_true] at hg
        exact eq_of_beq hg.2
      have h7 : cxE (lo + x) (v + y) n p q = 0 := by
        rw [hM] at hm0
        by_cases hh : cxE (lo + x) (v + y) n p q = 0
        · exact hh
        · rw [if_pos hh] at hm0
          cases hm0
      obtain ⟨m1, m2, m3, m4, m5⟩ := hm hm0
      rw [m1, m2, m3, m4, m5]
      exact ⟨is2_c _ _ _, is1_c _ _, cxE_zero h7, (wr_id (x := lo + x) (by omega) (by omega)).symm, show k = cxT n p + 1 by omega, fun i _ => show cW v n p q i + y = cW (v + y) n p q i by unfold cW; omega⟩
    conv => whnf
    repeat' (first
      | (refine NilG.mk fun bn hbn => ?_; conv => whnf)
      | (refine Both.mk ?_ ?_ <;> conv => whnf)
      | exact trivial
      | (refine Br.mk (fun hb => ?_) (fun hb => ?_) <;> (first | (exfalso; revert hb; decide) | ((try simp only [BL] at hb) <;> (try simp only [DL] at hb) <;> conv => whnf)))
      | (refine And.intro ?_ ?_; (focus (first | exact id | exact rfl | exact trivial | (intro hg; first | exact hg | exact rfl | (simp; done) | (simp at hg ⊢; assumption)) | omega | decide | exact is2_c _ _ _ | exact is1_c _ _ | exact isS_c _ _ | exact isB_c _ _ | exact Nat.le_refl _ | assumption | exact mulLe (by decide) (by omega) | exact mulLe2 (by decide) (by omega) (by omega) | (intros; simp only [BL] at *; omega) | (intros; (try simp only [BL] at *); (try simp only [DL] at *); omega) | (intros; simp only [BL] at *; rw [wr_id (by omega) (by omega)]; omega) | (intros; simp_all; done))); conv => whnf)
      | (refine Or.inr (And.intro rfl ?_); first | (refine congrArg intV ?_) | (refine congrArg boolV ?_) | (refine tupII ?_ ?_) | (refine tupIII ?_ ?_ ?_) | (refine tupU ?_ ?_ ?_ ?_ ?_) | exact rfl))
    rw [hM]
    by_cases hh : cxE (lo + x) (v + y) n p q = 0
    · simp [hh]
    · simp [hh]
  clear hb
  refine LoopG.nil 23 3 1 rfl ?_
  refine sem_loop tab_ok gamXL_ok mixed (by kernel_rfl) (O := lex) (fun j : Nat => ⟨[(3, intV x), (4, intV y), (5, .lp 0 0), (13, .lp 1 0), (14, intV (moveE lo v n p q x y)), (15, .lp 2 0), (16, intV 0), (21, .c (.sl 1 (cxT n p + 1) (c1 (cW v n p q)))), (23, .own 3), (128, intV ((cxT n p + 1 : Nat) : Int)), (129, intV j)], [.box [intV lo, intV v, .c (.sl 2 n (c2 p q))], .box [intV mlo, intV mv, .c (.sl 2 mn (c2 mp mq))], .box [intV tlo, intV tv, .c (.sl 2 tn (c2 tp tq))], .row 3 1 j false (c1 (fun k => cW v n p q (cxT n p - k)))]⟩) (fun j => j ≤ cxT n p + 1) (fun j => cxT n p + 1 - j) ⟨0, [?_, ?_, ?_, ?_], Nat.zero_le _, ?_⟩ fun j hj => ?_
  rotate_left 4
  · refine Sub.of ?_ ?_ ?_
    repeat' (first | (refine And.intro ?_ ?_) | exact trivial | (exact congrArg intV (by assumption)) | (refine congrArg intV ((wr_id (by omega) (by omega)).trans (by omega))) | exact rfl | (simp only [Int.toNat_natCast, Int.toNat_zero, Nat.sub_zero, Nat.zero_add]; first | exact rfl | done) | exact all0 | exact fun h => Bool.noConfusion h | exact fun _ _ _ _ => rfl | omega)
  obtain ⟨rfl, rfl, t3, rfl, rfl⟩ := ht h0
  obtain rfl := t3.symm
  have e0 : IntKind.i64.wrap (((cxT n p + 1 : Nat) : Int) - 1) = cxT n p := (wr_id (by omega) (by omega)).trans (by omega)
  have e1 : j < cxT n p + 1 → IntKind.i64.wrap (IntKind.i64.wrap (((cxT n p + 1 : Nat) : Int) - 1) - (j : Int)) = (cxT n p : Int) - j := fun hh => by rw [e0]; exact wr_id (by omega) (by omega)
  have hTr : S (rvP n p) n = S p n := by have h9 := rev_S (n := n) (p := p) n (Nat.le_refl n); rw [Nat.sub_self] at h9; exact (Int.add_zero _).symm.trans h9
  have hw2 : IntKind.i64.wrap (IntKind.i64.wrap (1 - lo) - ((cxT n p + 1 : Nat) : Int)) = -(lo + S p n) := by rw [wr_id (x := 1 - lo) (by omega) (by omega)]; exact (wr_id (by omega) (by omega)).trans (by omega)
  conv => whnf
  repeat' (first
    | (refine NilG.mk fun bn hbn => ?_; conv => whnf)
    | (refine Both.mk ?_ ?_ <;> conv => whnf)
    | exact trivial
    | (refine Br.mk (fun hb => ?_) (fun hb => ?_) <;> (first | (exfalso; revert hb; decide) | ((try simp only [BL] at hb) <;> (try simp only [DL] at hb) <;> conv => whnf)))
    | (refine And.intro ?_ ?_; (focus (first | exact id | exact rfl | exact trivial | (intro hg; first | exact hg | exact rfl | (simp; done) | (simp at hg ⊢; assumption)) | omega | decide | exact is2_c _ _ _ | exact is1_c _ _ | exact isS_c _ _ | exact isB_c _ _ | exact Nat.le_refl _ | assumption | exact mulLe (by decide) (by omega) | exact mulLe2 (by decide) (by omega) (by omega) | (intros; simp only [BL] at *; omega) | (intros; (try simp only [BL] at *); (try simp only [DL] at *); omega) | (intros; simp only [BL] at *; rw [wr_id (by omega) (by omega)]; omega) | (intros; simp_all; done) | first | (rw [e1 (by omega)]; omega) | exact fun _ => ⟨is2_c _ _ _, is1_c _ _, turn_ok h, hw2.symm, show j = (S (rvP n p) n).toNat + 1 by rw [hTr]; unfold cxT at *; omega, fun k hk => ((turn_W h k (by omega)).trans (congrArg (fun z => cW v n p q (z - k)) rfl)).symm⟩)); conv => whnf)
    | (refine Or.inr (And.intro rfl ?_); first | (refine congrArg intV ?_) | (refine congrArg boolV ?_) | (refine tupII ?_ ?_) | (refine tupIII ?_ ?_ ?_) | (refine tupU ?_ ?_ ?_ ?_ ?_) | exact rfl))
  · have ek : (IntKind.i64.wrap (IntKind.i64.wrap (((cxT n p + 1 : Nat) : Int) - 1) - (j : Int))).toNat = cxT n p - j := by rw [e1 (by omega)]; omega
    refine ⟨j + 1, [?_, ?_, ?_, ?_], by omega, by omega, ?_⟩
    rotate_left 4
    refine Sub.of ?_ ?_ ?_
    repeat' (first | (refine And.intro ?_ ?_) | exact trivial | (exact congrArg intV (by assumption)) | (refine congrArg intV ((wr_id (by omega) (by omega)).trans (by omega))) | exact rfl | (simp only [Int.toNat_natCast, Int.toNat_zero, Nat.sub_zero, Nat.zero_add]; first | exact rfl | done) | exact all0 | exact fun h => Bool.noConfusion h | exact fun _ _ _ _ => rfl | omega)
    intro aq haq bq hbq
    by_cases hltq : aq < j
    · exact if_pos hltq
    · obtain rfl : aq = j := by omega
      refine (if_neg hltq).trans ?_
      rw [Nat.sub_self]
      revert bq hbq
      refine all1 (congrArg (fun z => L.v (.int .i64 (cW v n p q z))) ek)
  · have hM : moveE lo v n p q x y = 4 := by
      unfold moveE
      rw [if_neg (fun h => h h0), if_pos]
      simp only [outM, inB, Bool.not_eq_true', Bool.and_eq_false_iff, decide_eq_false_iff_not]
      omega
    rw [hM]
    rfl
  have hxy := hb
  have hM : moveE lo v n p q x y = if cxE (lo + x) (v + y) n p q ≠ 0 then 2 else 0 := by
    unfold moveE
    rw [if_neg (fun h => h h0), if_neg]
    simp only [outM, inB, Bool.not_eq_true', Bool.and_eq_false_iff, decide_eq_false_iff_not]
    omega
  clear hb
  refine LoopG.nil 27 3 1 rfl ?_
  refine sem_loop tab_ok gamXL_ok mixed (by kernel_rfl) (O := lex) (fun k : Nat => ⟨[(3, intV x), (4, intV y), (5, .lp 0 0), (13, .lp 1 0), (14, intV (moveE lo v n p q x y)), (27, .own 2), (168, .c (.sl 1 (cxT n p + 1) (c1 (cW v n p q)))), (169, intV ((cxT n p + 1 : Nat) : Int)), (170, intV k)], [.box [intV lo, intV v, .c (.sl 2 n (c2 p q))], .box [intV mlo, intV mv, .c (.sl 2 mn (c2 mp mq))], .row 3 1 k false (c1 (fun z => cW v n p q z + y))]⟩) (fun k => k ≤ cxT n p + 1) (fun k => cxT n p + 1 - k) ⟨0, [?_, ?_, ?_], Nat.zero_le _, ?_⟩ fun k hk => ?_
  rotate_left 3
  · refine Sub.of ?_ ?_ ?_
    repeat' (first | (refine And.intro ?_ ?_) | exact trivial | (exact congrArg intV (by assumption)) | (refine congrArg intV ((wr_id (by omega) (by omega)).trans (by omega))) | exact rfl | (simp only [Int.toNat_natCast, Int.toNat_zero, Nat.sub_zero, Nat.zero_add]; first | exact rfl | done) | exact all0 | exact fun h => Bool.noConfusion h | exact fun _ _ _ _ => rfl | omega)
  have hcW := cW_le h k
  conv => whnf
  repeat' (first
    | (refine NilG.mk fun bn hbn => ?_; conv => whnf)
    | (refine Both.mk ?_ ?_ <;> conv => whnf)
    | exact trivial
    | (refine Br.mk (fun hb => ?_) (fun hb => ?_) <;> (first | (exfalso; revert hb; decide) | ((try simp only [BL] at hb) <;> (try simp only [DL] at hb) <;> conv => whnf)))
    | (refine And.intro ?_ ?_; (focus (first | exact id | exact rfl | exact trivial | (intro hg; first | exact hg | exact rfl | (simp; done) | (simp at hg ⊢; assumption)) | omega | decide | exact is2_c _ _ _ | exact is1_c _ _ | exact isS_c _ _ | exact isB_c _ _ | exact Nat.le_refl _ | assumption | exact mulLe (by decide) (by omega) | exact mulLe2 (by decide) (by omega) (by omega) | (intros; simp only [BL] at *; omega) | (intros; (try simp only [BL] at *); (try simp only [DL] at *); omega) | (intros; simp only [BL] at *; rw [wr_id (by omega) (by omega)]; omega) | (intros; simp_all; done))); conv => whnf)
    | (refine Or.inr (And.intro rfl ?_); first | (refine congrArg intV ?_) | (refine congrArg boolV ?_) | (refine tupII ?_ ?_) | (refine tupIII ?_ ?_ ?_) | (refine tupU ?_ ?_ ?_ ?_ ?_) | exact rfl))
  · have e7 : IntKind.i64.wrap (cW v n p q k + y) = cW v n p q k + y := wr_id (by omega) (by omega)
    refine ⟨k + 1, [?_, ?_, ?_], by omega, by omega, ?_⟩
    rotate_left 3
    refine Sub.of ?_ ?_ ?_
    repeat' (first | (refine And.intro ?_ ?_) | exact trivial | (exact congrArg intV (by assumption)) | (refine congrArg intV ((wr_id (by omega) (by omega)).trans (by omega))) | exact rfl | (simp only [Int.toNat_natCast, Int.toNat_zero, Nat.sub_zero, Nat.zero_add]; first | exact rfl | done) | exact all0 | exact fun h => Bool.noConfusion h | exact fun _ _ _ _ => rfl | omega)
    intro aq haq bq hbq
    by_cases hltq : aq < k
    · exact if_pos hltq
    · obtain rfl : aq = k := by omega
      refine (if_neg hltq).trans ?_
      rw [Nat.sub_self]
      revert bq hbq
      refine all1 (congrArg (fun z => L.v (.int .i64 z)) e7)
  refine And.intro (fun hg => ?_) ?_
  · have hm0 : moveE lo v n p q x y = 0 := by
      rw [Bool.and_eq_true] at hg
      exact eq_of_beq hg.2
    have h7 : cxE (lo + x) (v + y) n p q = 0 := by
      rw [hM] at hm0
      by_cases hh : cxE (lo + x) (v + y) n p q = 0
      · exact hh
      · rw [if_pos hh] at hm0
        cases hm0
    obtain ⟨m1, m2, m3, m4, m5⟩ := hm hm0
    rw [m1, m2, m3, m4, m5]
    exact ⟨is2_c _ _ _, is1_c _ _, cxE_zero h7, (wr_id (x := lo + x) (by omega) (by omega)).symm, show k = cxT n p + 1 by omega, fun i _ => show cW v n p q i + y = cW (v + y) n p q i by unfold cW; omega⟩
  conv => whnf
  repeat' (first
    | (refine NilG.mk fun bn hbn => ?_; conv => whnf)
    | (refine Both.mk ?_ ?_ <;> conv => whnf)
    | exact trivial
    | (refine Br.mk (fun hb => ?_) (fun hb => ?_) <;> (first | (exfalso; revert hb; decide) | ((try simp only [BL] at hb) <;> (try simp only [DL] at hb) <;> conv => whnf)))
    | (refine And.intro ?_ ?_; (focus (first | exact id | exact rfl | exact trivial | (intro hg; first | exact hg | exact rfl | (simp; done) | (simp at hg ⊢; assumption)) | omega | decide | exact is2_c _ _ _ | exact is1_c _ _ | exact isS_c _ _ | exact isB_c _ _ | exact Nat.le_refl _ | assumption | exact mulLe (by decide) (by omega) | exact mulLe2 (by decide) (by omega) (by omega) | (intros; simp only [BL] at *; omega) | (intros; (try simp only [BL] at *); (try simp only [DL] at *); omega) | (intros; simp only [BL] at *; rw [wr_id (by omega) (by omega)]; omega) | (intros; simp_all; done))); conv => whnf)
    | (refine Or.inr (And.intro rfl ?_); first | (refine congrArg intV ?_) | (refine congrArg boolV ?_) | (refine tupII ?_ ?_) | (refine tupIII ?_ ?_ ?_) | (refine tupU ?_ ?_ ?_ ?_ ?_) | exact rfl))
  rw [hM]
  by_cases hh : cxE (lo + x) (v + y) n p q = 0
  · simp [hh]
  · simp [hh]

theorem convexMoves_own : ownKnob Try.prog.godebug = none := by kernel_rfl
theorem convexMoves_laid : laidOutB Try.prog = true := by kernel_rfl

set_option maxRecDepth 100000 in
theorem convexMoves_lifted (os : Os) (started : os.Started) (H : Type) (enc : TypeId × Value → H) :
    ReturnsInHanded {} Try.checked os 3 .any (Rows.convexMovesSpec.pre6 enc Try.prog Try.f3 Rows.convexMovesRow.domain false) (Rows.convexMovesSpec.post enc Try.prog Try.f3 false true false false) := by
  refine returnsInHanded_of_change (C := Try.checked) convexMoves_own started (by kernel_rfl) Try.func3
    (ChangeSpec.witness6 (enc := enc) (C := Try.checked) false ⟨#[], #[.agg #[.int .i64 0, .int .i64 0, .slice none 0 0], .int .i64 0, .int .i64 0, .int .i64 0, .int .i64 0], []⟩ 8 (by kernel_rfl) (by kernel_rfl) (by kernel_rfl) (by kernel_rfl)) ?_
  intro W base args ds gs before hval0 hW hcnd _
  have hval : ∀ (j : Nat) t v, Try.f3.params[j]? = some t → args[j]? = some v → Value.okWide Try.prog W .any base t v := hval0
  have hW' : DataW.Whole enc Try.prog Try.f3.params.toList Rows.convexMovesSpec.vars false W args.toList ds gs before := hW
  exact law_post (P := Try.prog) [.st (.cons (.i .i64) (.cons (.i .i64) (.cons (.sl (.st (.cons (.i .i64) (.cons (.i .i64) .nil)))) .nil))), .i .i64, .i .i64, .i .i64, .i .i64] (by kernel_rfl) convexMoves_laid (by kernel_rfl) rfl (tb := 4) rfl (by kernel_rfl) (fun ds h => by
    match ds, h with
    | [d1, d2, d3, d4, d5], _ => rfl) (fun x hx => mvLaw x.1.1 x.1.2.1 x.1.2.2.1.1 (fun k => (x.1.2.2.1.2 k).1) (fun k => (x.1.2.2.1.2 k).2.1) x.2.1 x.2.2.1 x.2.2.2.1 x.2.2.2.2.1 hx.1.2.2.1.1 hx.2.1) W args ds gs before hval hW'

theorem convexMoves_holds : Rows.ConvexMovesSaid :=
  OpenClaim.holds_of_wide 3 Try.f3 rfl rfl rfl rfl rfl rfl rfl ⟨rfl, rfl, rfl, rfl, rfl⟩ rfl rfl rfl rfl rfl (by kernel_rfl) Try.func3 (by kernel_rfl)
    (of_decide_eq_true (by kernel_rfl)) (by unfold Func.isWrapper; rw [if_neg (by decide +kernel)]; exact ⟨rfl, rfl⟩)
    (fun os started H enc _ => convexMoves_lifted os started H enc)

end Go.Proofs.Ytdakikgebfphmaa
