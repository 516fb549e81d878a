/-
  RampNearest holds: Nearest gives the schedule of the reference, whatever the limits, the ramps and the plan.
-/
import Derived.Test.YtkkkldhilofgmaaRamM
import Derived.Test.YtkkkldhilofgmaaRamD
namespace Go.Proofs.Ytkkkldhilofgmaa
open Go.RowKit Go.ChangeShapes Go.WideShapes

def exR : Ram := ⟨0, 10, 10, 2, fun _ => 0, fun _ => 40, fun k => if k = 0 then 30 else 15⟩
theorem exR_law {F : Nat → Cxt} {lv : Nat → Int} (h : rmCh exR 2 F) (he : rmEnd (F 2) (lv 2)) (hl : rmPrev exR (F 1) (lv (1 + 1)) (lv 1)) : lv 1 = 10 ∧ lv 2 = 15 ∧ (F 2).V (lv 2) = 20 := by
  have hs : rmOk exR := by decide
  have hS : rmS exR := ⟨by decide, fun k hk => ⟨by show (40 : Int) ≤ 40; decide, by show (if k = 0 then (30 : Int) else 15) ≤ 40; split <;> decide⟩⟩
  obtain ⟨-, n1, n2, n3⟩ := nowC_B hs hS
  have hV0 : (F 0).V 0 = 0 := by rw [h.1]; exact n3
  have hlo0 : (F 0).lo = 0 := by rw [h.1]; exact n1
  have hhi0 : (F 0).hi = 0 := by rw [h.1]; exact n2
  have hD : exR.dn = 10 := rfl
  have hU : exR.up = 10 := rfl
  obtain ⟨-, p2, p3, p5⟩ := h.2.1 0 (by omega)
  obtain ⟨-, q2, q3, q5⟩ := h.2.1 1 (by omega)
  have l1 : (F 1).lo = 0 := by rw [p2, hlo0]; decide
  have u1 : (F 1).hi = 10 := by rw [p3, hhi0]; decide
  have l2 : (F 2).lo = 0 := by rw [q2, l1]; decide
  have u2 : (F 2).hi = 20 := by rw [q3, u1]; decide
  have hV1 : ∀ k, 0 ≤ k → k ≤ 10 → (F 1).V k = 30 - k := fun k h1 h2 => by
    obtain ⟨-, b, c1, -, -, c4⟩ := p5 k ⟨by rw [l1]; exact h1, by rw [u1]; exact h2⟩
    obtain rfl : b = 0 := by
      have h1 := c1.1
      have h2 := c1.2
      rw [hlo0] at h1
      rw [hhi0] at h2
      omega
    have c4 : (F 1).V k = (F 0).V 0 + max (k - 30) (30 - k) := c4
    rw [hV0] at c4
    omega
  have k1 := he.1.1
  have k2 := he.1.2
  rw [l2] at k1
  rw [u2] at k2
  have z1 := (q5 15 ⟨by rw [l2]; decide, by rw [u2]; decide⟩).1 10 ⟨by rw [l1]; decide, by rw [u1]; decide⟩ (by rw [hD]; decide) (by rw [hU]; decide)
  have z1 : (F 2).V 15 ≤ (F 1).V 10 + max (15 - 15) (15 - 15) := z1
  rw [hV1 10 (by decide) (by decide)] at z1
  obtain ⟨-, b, c1, c2, c3, c4⟩ := q5 (lv 2) ⟨by rw [l2]; exact k1, by rw [u2]; exact k2⟩
  have cb1 := c1.1
  have cb2 := c1.2
  rw [l1] at cb1
  rw [u1] at cb2
  have c4 : (F 2).V (lv 2) = (F 1).V b + max (lv 2 - 15) (15 - lv 2) := c4
  rw [hV1 b cb1 cb2] at c4
  have z2 := (he.2 15 ⟨by rw [l2]; decide, by rw [u2]; decide⟩).1
  have g2 : lv 2 = 15 := by omega
  have g3 : (F 2).V (lv 2) = 20 := by omega
  obtain ⟨m1, m2, m3, m4⟩ := hl
  have m11 := m1.1
  have m12 := m1.2
  rw [l1] at m11
  rw [u1] at m12
  have g2' : lv (1 + 1) = 15 := g2
  have m5 := (m4 10 ⟨by rw [l1]; decide, by rw [u1]; decide⟩ (by rw [hD, g2']; decide) (by rw [hU, g2']; decide)).1
  rw [hV1 _ m11 m12, hV1 10 (by decide) (by decide)] at m5
  exact ⟨by omega, g2, g3⟩
/-- a fact that is kept, so that it does not come in the way -/
theorem exNear : Fn Try.prog 28 [.c (.sl 2 2 (c2 exR.lo exR.hi)), intV 0, intV 10, intV 10, .c (.sl 1 2 (c1 exR.pl))] (fun obs r => obs = [] ∧ r = .tup [.c (.sl 1 2 (c1 fun t => if t = 0 then 10 else 15)), intV 20, intV 0]) := by
  refine (rmNear exR 2 (by decide) (by decide)).res fun obs r hr => ?_
  obtain ⟨rfl, k, sc, d, e, rfl, hr⟩ := hr
  have hS : rmS exR := ⟨by decide, fun k hk => ⟨by show (40 : Int) ≤ 40; decide, by show (if k = 0 then (30 : Int) else 15) ≤ 40; split <;> decide⟩⟩
  have hs : rmOk exR := by decide
  have hE : rmE exR = 0 := by decide
  rcases hr with ⟨h, -⟩ | ⟨-, h, -⟩ | ⟨-, -, h, -⟩ | ⟨-, -, -, h⟩
  · exact absurd hE h
  · exact absurd rfl h
  · exact absurd (show rmPl exR by decide) h
  rcases h hS with ⟨⟨t, F, h1, h2, h3⟩, -⟩ | ⟨F, hc, h1, h2, lv, he, hp, hsc, hd⟩
  · have hB := h2.2.2 t (Nat.le_refl t)
    have hle := Cxt.le hB.1
    have b1 := hB.2.1
    have b2 := hB.2.2.1
    have e1 : exR.lo t = 0 := rfl
    have e2 : exR.hi t = 40 := rfl
    have e3 : exR.up = 10 := rfl
    have e4 : exR.dn = 10 := rfl
    exfalso; omega
  · have hm : exR.m = 2 := rfl
    rw [hm] at h1 he hp hsc hd hc
    obtain ⟨a1, a2, a3⟩ := exR_law hc he (hp 1 (by omega) (by omega))
    subst h1 h2
    refine ⟨_, ⟨rfl, rfl⟩, Le1.tup (Le.cons (Le1.sl fun k hk j hj => ?_) (Le.cons (Le1.of_eq (congrArg intV (hd.trans a3))) (Le.cons (Le1.refl _) Le.nil)))⟩
    match k, j, hk, hj with
    | 0, 0, _, _ => exact congrArg iL ((hsc 0 (by omega)).trans a1)
    | 1, 0, _, _ => exact congrArg iL ((hsc 1 (by omega)).trans a2)
def sRI : List AV → Sd × AV
  | [.c (.sl 1 n f), .c (.sl 1 m g)] => (.p (is1 n f ∧ is1 m g ∧ n ≤ 9000000 ∧ m = n ∧ ∀ i, i < n → d0 f i = d0 g i), boolV true)
  | _ => (.p False, .top)
def gamRL : Gam := fun f => match f with
  | 27 => some (s3 inB)
  | 23 => some sRI
  | _ => none
theorem gamRL_ok : GOk Try.prog gamRL := fun f g h => by
  unfold gamRL at h
  split at h
  · injection h with h; subst h; exact s3_ok in3
  · injection h with h; subst h
    intro args hs _
    unfold sRI at hs ⊢
    split at hs
    · exact (sameInts _ _ _ _ hs.2.2).le (Le.cons (Le1.sl hs.1) (Le.cons (Le1.sl hs.2.1) Le.nil))
    · exact hs.elim
  · cases h
theorem hRf {kb : Nat} {d e a : Int} {sc : Nat → Int} {G : Nat → Nat → Int} (s : Ram) (hs : rmOk s) (hS : rmS s) (hm24 : s.m ≤ 24) (hG : clCh s s.m G) (hsr : rmSr (G s.m) 41 a) (ha : ¬ a < 0)
    (hk : ((∃ t F, rmNo s t F) ∧ kb = 0 ∧ d = 0 ∧ e = 8) ∨ ∃ F, rmCh s s.m F ∧ kb = s.m ∧ e = 0 ∧ ∃ lv : Nat → Int, rmEnd (F s.m) (lv s.m) ∧ (∀ t, 1 ≤ t → t < s.m → rmPrev s (F t) (lv (t + 1)) (lv t)) ∧ (∀ t, t < s.m → sc t = lv (t + 1)) ∧ d = if s.m = 0 then 0 else (F s.m).V (lv s.m)) :
    kb = s.m ∧ e = 0 ∧ d = G s.m a.toNat ∧ ∃ F, rmCh s s.m F ∧ ∃ lv : Nat → Int, a = lv s.m ∧ rmEnd (F s.m) (lv s.m) ∧ (∀ t, t < s.m → rmPrev s (F t) (lv (t + 1)) (lv t)) ∧ ∀ t, t < s.m → sc t = lv (t + 1) := by
  rcases hk with ⟨⟨t, F, hn⟩, -⟩ | ⟨F, hc, h1, h2, lv, h3, h4, h5, h6⟩
  · have h9 := cl_no hs hS hm24 hG hn (s.m - t - 1) (by have := hn.1; omega)
    rw [show t + 1 + (s.m - t - 1) = s.m by have := hn.1; omega] at h9
    rcases hsr with ⟨h, -⟩ | ⟨h7, h8, h10, -⟩
    · omega
    · rw [h9 a.toNat (by omega)] at h10
      exact absurd h10 (Int.lt_irrefl _)
  · rcases sr_end (hc.2.2 s.m (Nat.le_refl _)) hm24 (cl_lv hs hS hm24 hG hc s.m (Nat.le_refl _)) hsr with ⟨-, h⟩ | ⟨g1, g2, g3, g4⟩
    · exact h.elim
    have ha2 := rend_one g3 h3
    have hlin : ∀ t, 1 ≤ t → t ≤ s.m → (F t).in (lv t) := fun t h1 ht => by
      by_cases e : t = s.m
      · rw [e]; exact h3.1
      · exact (h4 t h1 (by omega)).1
    have k1 : ∀ t, ¬ t = 0 → (if t = 0 then s.now else lv t) = lv t := fun t ht => if_neg ht
    by_cases e0 : s.m = 0
    · obtain ⟨-, n1, n2, n3⟩ := nowC_B hs hS
      have hin := g3.1
      rw [e0, hc.1] at hin
      have i1 := hin.1
      have i2 := hin.2
      rw [n1] at i1
      rw [n2] at i2
      refine ⟨h1, h2, ?_, F, hc, lv, ha2, h3, fun t ht => absurd ht (by omega), h5⟩
      rw [h6, if_pos e0, g4, e0, hc.1, show a = s.now by omega, n3]
    · refine ⟨h1, h2, ?_, F, hc, fun t => if t = 0 then s.now else lv t, ?_, ?_, fun t ht => ?_, fun t ht => ?_⟩
      · rw [h6, if_neg e0, g4, ha2]
      · show a = if s.m = 0 then s.now else lv s.m
        rw [k1 _ e0]; exact ha2
      · show rmEnd (F s.m) (if s.m = 0 then s.now else lv s.m)
        rw [k1 _ e0]; exact h3
      · show rmPrev s (F t) (if t + 1 = 0 then s.now else lv (t + 1)) (if t = 0 then s.now else lv t)
        rw [k1 (t + 1) (by omega)]
        by_cases e : t = 0
        · rw [if_pos e, e]
          exact rprev_zero hs hS hc.1 (hc.2.1 0 (by omega)) (hlin 1 (by omega) (by omega))
        · rw [k1 t e]; exact h4 t (by omega) ht
      · show sc t = if t + 1 = 0 then s.now else lv (t + 1)
        rw [k1 (t + 1) (by omega)]; exact h5 t ht
set_option maxHeartbeats 8000000 in
set_option maxRecDepth 100000 in
theorem rnLaw (s : Ram) (mp : Nat) (hm : s.m ≤ maxLen) (hp : mp ≤ maxLen) : Fn1 Try.prog 6 [.c (.sl 2 s.m (c2 s.lo s.hi)), intV s.now, intV s.up, intV s.dn, .c (.sl 1 mp (c1 s.pl))] (boolV true) := by
  refine fn_of_wpx (O := lex) tab_ok gamRL_ok mixed Try.func6 (by kernel_rfl) rfl rfl rfl (by simp [Try.ntmps6]) (by kernel_rfl) ?_
  have hm' : s.m ≤ 9223372036854775807 := hm
  have hp' : mp ≤ 9223372036854775807 := hp
  conv => whnf
  repeat' (first
    | (refine NilG.mk fun bn hbn hbx => ?_; conv => whnf)
    | (refine Both.mk ?_ ?_ <;> conv => whnf)
    | exact trivial
    | (refine Br.mk (fun hb => ?_) (fun hb => ?_) <;> (first | (exfalso; revert hb; decide) | ((try simp only [BL] at hb) <;> (try simp only [DL] at hb) <;> conv => whnf)))
    | (refine And.intro ?_ ?_; (focus (first | exact id | exact rfl | exact trivial | (intro hg; first | exact hg | exact rfl | (simp; done) | (simp at hg ⊢; assumption)) | omega | decide | exact is2_c _ _ _ | exact is1_c _ _ | exact isS_c _ _ | exact isB_c _ _ | exact Nat.le_refl _ | assumption | exact mulLe (by decide) (by omega) | exact mulLe2 (by decide) (by omega) (by omega) | (intros; simp only [BL] at *; omega) | (intros; (try simp only [BL] at *); (try simp only [DL] at *); omega) | (intros; simp only [BL] at *; rw [wr_id (by omega) (by omega)]; omega) | (intro h1 h2; exact Bool.and_eq_true_iff.2 ⟨h1, h2⟩) | (intros; simp_all; done))); conv => whnf)
    | (refine Or.inr (And.intro rfl ?_); first | (refine congrArg intV ?_) | (refine congrArg boolV ?_) | (refine tupII ?_ ?_) | (refine tupIII ?_ ?_ ?_) | (refine tupU ?_ ?_ ?_ ?_ ?_) | exact rfl))
  refine CallG.mk (Fn.mono (exNear.le (Le.cons (Le1.sl fun k hk j hj => ?_) (Le.cons (Le1.refl _) (Le.cons (Le1.refl _) (Le.cons (Le1.refl _) (Le.cons (Le1.sl fun k hk j hj => ?_) Le.nil)))))) ?_)
  · match k, j, hk, hj with
    | 0, 0, _, _ => rfl
    | 0, 1, _, _ => rfl
    | 1, 0, _, _ => rfl
    | 1, 1, _, _ => rfl
  · match k, j, hk, hj with
    | 0, 0, _, _ => rfl
    | 1, 0, _, _ => rfl
  rintro obs r ⟨rfl, rfl⟩
  conv => whnf
  repeat' (first
    | (refine NilG.mk fun bn hbn hbx => ?_; conv => whnf)
    | (refine Both.mk ?_ ?_ <;> conv => whnf)
    | exact trivial
    | (refine Br.mk (fun hb => ?_) (fun hb => ?_) <;> (first | (exfalso; revert hb; decide) | ((try simp only [BL] at hb) <;> (try simp only [DL] at hb) <;> conv => whnf)))
    | (refine And.intro ?_ ?_; (focus (first | exact id | exact rfl | exact trivial | (intro hg; first | exact hg | exact rfl | (simp; done) | (simp at hg ⊢; assumption)) | omega | decide | exact is2_c _ _ _ | exact is1_c _ _ | exact isS_c _ _ | exact isB_c _ _ | exact Nat.le_refl _ | assumption | exact mulLe (by decide) (by omega) | exact mulLe2 (by decide) (by omega) (by omega) | (intros; simp only [BL] at *; omega) | (intros; (try simp only [BL] at *); (try simp only [DL] at *); omega) | (intros; simp only [BL] at *; rw [wr_id (by omega) (by omega)]; omega) | (intro h1 h2; exact Bool.and_eq_true_iff.2 ⟨h1, h2⟩) | (intros; simp_all; done))); conv => whnf)
    | (refine Or.inr (And.intro rfl ?_); first | (refine congrArg intV ?_) | (refine congrArg boolV ?_) | (refine tupII ?_ ?_) | (refine tupIII ?_ ?_ ?_) | (refine tupU ?_ ?_ ?_ ?_ ?_) | exact rfl))
  refine And.intro (fun _ => ?_) (fun hg => absurd hg (by decide))
  conv => whnf
  repeat' (first
    | (refine NilG.mk fun bn hbn hbx => ?_; conv => whnf)
    | (refine Both.mk ?_ ?_ <;> conv => whnf)
    | exact trivial
    | (refine Br.mk (fun hb => ?_) (fun hb => ?_) <;> (first | (exfalso; revert hb; decide) | ((try simp only [BL] at hb) <;> (try simp only [DL] at hb) <;> conv => whnf)))
    | (refine And.intro ?_ ?_; (focus (first | exact id | exact rfl | exact trivial | (intro hg; first | exact hg | exact rfl | (simp; done) | (simp at hg ⊢; assumption)) | omega | decide | exact is2_c _ _ _ | exact is1_c _ _ | exact isS_c _ _ | exact isB_c _ _ | exact Nat.le_refl _ | assumption | exact mulLe (by decide) (by omega) | exact mulLe2 (by decide) (by omega) (by omega) | (intros; simp only [BL] at *; omega) | (intros; (try simp only [BL] at *); (try simp only [DL] at *); omega) | (intros; simp only [BL] at *; rw [wr_id (by omega) (by omega)]; omega) | (intro h1 h2; exact Bool.and_eq_true_iff.2 ⟨h1, h2⟩) | exact fun _ => ⟨is1_c _ _, fun k hk j hj => (match k, j, hk, hj with | 0, 0, _, _ => rfl | 1, 0, _, _ => rfl), by decide, rfl, fun i hi => (match i, hi with | 0, _ => rfl | 1, _ => rfl)⟩ | (intros; simp_all; done))); conv => whnf)
    | (refine Or.inr (And.intro rfl ?_); first | (refine congrArg intV ?_) | (refine congrArg boolV ?_) | (refine tupII ?_ ?_) | (refine tupIII ?_ ?_ ?_) | (refine tupU ?_ ?_ ?_ ?_ ?_) | exact rfl))
  refine CallG.mk (Fn.mono (rmNear s mp hm hp) ?_)
  rintro obs r ⟨rfl, kb, sc, d, e, rfl, hk⟩
  conv => whnf
  repeat' (first
    | (refine NilG.mk fun bn hbn hbx => ?_; conv => whnf)
    | (refine Both.mk ?_ ?_ <;> conv => whnf)
    | exact trivial
    | (refine Br.mk (fun hb => ?_) (fun hb => ?_) <;> (first | (exfalso; revert hb; decide) | ((try simp only [BL] at hb) <;> (try simp only [DL] at hb) <;> conv => whnf)))
    | (refine And.intro ?_ ?_; (focus (first | exact id | exact rfl | exact trivial | (intro hg; first | exact hg | exact rfl | (simp; done) | (simp at hg ⊢; assumption)) | omega | decide | exact is2_c _ _ _ | exact is1_c _ _ | exact isS_c _ _ | exact isB_c _ _ | exact Nat.le_refl _ | assumption | exact mulLe (by decide) (by omega) | exact mulLe2 (by decide) (by omega) (by omega) | (intros; simp only [BL] at *; omega) | (intros; (try simp only [BL] at *); (try simp only [DL] at *); omega) | (intros; simp only [BL] at *; rw [wr_id (by omega) (by omega)]; omega) | (intro h1 h2; exact Bool.and_eq_true_iff.2 ⟨h1, h2⟩) | (intros; simp_all; done))); conv => whnf)
    | (refine Or.inr (And.intro rfl ?_); first | (refine congrArg intV ?_) | (refine congrArg boolV ?_) | (refine tupII ?_ ?_) | (refine tupIII ?_ ?_ ?_) | (refine tupU ?_ ?_ ?_ ?_ ?_) | exact rfl))
  refine CallG.mk (Fn.mono (rmErrR s hm) ?_)
  rintro obs r ⟨rfl, rfl⟩
  conv => whnf
  repeat' (first
    | (refine NilG.mk fun bn hbn hbx => ?_; conv => whnf)
    | (refine Both.mk ?_ ?_ <;> conv => whnf)
    | exact trivial
    | (refine Br.mk (fun hb => ?_) (fun hb => ?_) <;> (first | (exfalso; revert hb; decide) | ((try simp only [BL] at hb) <;> (try simp only [DL] at hb) <;> conv => whnf)))
    | (refine And.intro ?_ ?_; (focus (first | exact id | exact rfl | exact trivial | (intro hg; first | exact hg | exact rfl | (simp; done) | (simp at hg ⊢; assumption)) | omega | decide | exact is2_c _ _ _ | exact is1_c _ _ | exact isS_c _ _ | exact isB_c _ _ | exact Nat.le_refl _ | assumption | exact mulLe (by decide) (by omega) | exact mulLe2 (by decide) (by omega) (by omega) | (intros; simp only [BL] at *; omega) | (intros; (try simp only [BL] at *); (try simp only [DL] at *); omega) | (intros; simp only [BL] at *; rw [wr_id (by omega) (by omega)]; omega) | (intro h1 h2; exact Bool.and_eq_true_iff.2 ⟨h1, h2⟩) | (intros; simp_all; done))); conv => whnf)
    | (refine Or.inr (And.intro rfl ?_); first | (refine congrArg intV ?_) | (refine congrArg boolV ?_) | (refine tupII ?_ ?_) | (refine tupIII ?_ ?_ ?_) | (refine tupU ?_ ?_ ?_ ?_ ?_) | exact rfl))
  refine CallG.mk (Fn.mono (rmChk s hm) ?_)
  rintro obs r ⟨rfl, rfl⟩
  conv => whnf
  repeat' (first
    | (refine NilG.mk fun bn hbn hbx => ?_; conv => whnf)
    | (refine Both.mk ?_ ?_ <;> conv => whnf)
    | exact trivial
    | (refine Br.mk (fun hb => ?_) (fun hb => ?_) <;> (first | (exfalso; revert hb; decide) | ((try simp only [BL] at hb) <;> (try simp only [DL] at hb) <;> (first | (exfalso; omega) | (conv => whnf)))))
    | (refine And.intro ?_ ?_; (focus (first | exact id | exact rfl | exact trivial | (intro hg; first | exact hg | exact rfl | (simp; done) | (simp at hg ⊢; assumption)) | omega | decide | exact is2_c _ _ _ | exact is1_c _ _ | exact isS_c _ _ | exact isB_c _ _ | exact Nat.le_refl _ | assumption | exact mulLe (by decide) (by omega) | exact mulLe2 (by decide) (by omega) (by omega) | (intros; simp only [BL] at *; omega) | (intros; (try simp only [BL] at *); (try simp only [DL] at *); omega) | (intros; simp only [BL] at *; rw [wr_id (by omega) (by omega)]; omega) | (intro h1 h2; exact Bool.and_eq_true_iff.2 ⟨h1, h2⟩) | (intros; simp_all; done))); conv => whnf)
    | (refine Or.inr (And.intro rfl ?_); first | (refine congrArg intV ?_) | (refine congrArg boolV ?_) | (refine tupII ?_ ?_) | (refine tupIII ?_ ?_ ?_) | (refine tupU ?_ ?_ ?_ ?_ ?_) | exact rfl))
  · exact absurd trivial hb

  · have hb1 := hb
    refine sem_loop tab_ok gamRL_ok mixed (by kernel_rfl) (O := lex) (fun t : Nat => ⟨[(0, .c (.sl 2 s.m (c2 s.lo s.hi))), (1, intV s.now), (2, intV s.up), (3, intV s.dn), (4, .c (.sl 1 mp (c1 s.pl))), (14, .c (.sl 1 kb (c1 sc))), (15, intV d), (16, intV e), (17, intV 3), (82, .c (.sl 1 mp (c1 s.pl))), (83, intV mp), (84, intV t)], []⟩) (fun t => t ≤ mp) (fun t => mp - t) ⟨0, [], Nat.zero_le _, ?_⟩ fun t ht => ?_
    · refine Sub.of ?_ ?_ ?_
      repeat' (first | (refine And.intro ?_ ?_) | exact trivial | exact fun _ _ _ => hsc _ _ | (exact congrArg intV (by first | with_reducible rfl | with_reducible assumption)) | exact (rfl : AV.idsLt _ _ = true) | exact (rfl : _ = AV.ren _ (.own _)) | exact (rfl : _ = AV.ren _ (.fn _ _)) | exact (rfl : _ = AV.ren _ (.gh _)) | (exact congrArg intV (by assumption)) | (refine congrArg intV ((wr_id (by omega) (by omega)).trans (by omega))) | exact rfl | (simp only [Int.toNat_natCast, Int.toNat_zero, Nat.sub_zero, Nat.zero_add]; first | exact rfl | done) | exact all0 | exact fun h => Bool.noConfusion h | exact fun _ _ _ _ => rfl | omega)
    conv => whnf
    repeat' (first
      | (refine NilG.mk fun bn hbn hbx => ?_; conv => whnf)
      | (refine Both.mk ?_ ?_ <;> conv => whnf)
      | exact trivial
      | (refine Br.mk (fun hb => ?_) (fun hb => ?_) <;> (first | (exfalso; revert hb; decide) | ((try simp only [BL] at hb) <;> (try simp only [DL] at hb) <;> (first | (exfalso; omega) | (conv => whnf)))))
      | (refine And.intro ?_ ?_; (focus (first | exact id | exact rfl | exact trivial | (intro hg; first | exact hg | exact rfl | (simp; done) | (simp at hg ⊢; assumption)) | omega | decide | exact is2_c _ _ _ | exact is1_c _ _ | exact isS_c _ _ | exact isB_c _ _ | exact Nat.le_refl _ | assumption | exact mulLe (by decide) (by omega) | exact mulLe2 (by decide) (by omega) (by omega) | (intros; simp only [BL] at *; omega) | (intros; (try simp only [BL] at *); (try simp only [DL] at *); omega) | (intros; simp only [BL] at *; rw [wr_id (by omega) (by omega)]; omega) | (intro h1 h2; exact Bool.and_eq_true_iff.2 ⟨h1, h2⟩) | exact ⟨rfl, by omega, by decide⟩ | (intros; simp_all; done))); conv => whnf)
      | (refine Or.inr (And.intro rfl ?_); first | (refine congrArg intV ?_) | (refine congrArg boolV ?_) | (refine tupII ?_ ?_) | (refine tupIII ?_ ?_ ?_) | (refine tupU ?_ ?_ ?_ ?_ ?_) | exact rfl))
    · refine ⟨t + 1, [], by omega, by omega, ?_⟩
      refine Sub.of ?_ ?_ ?_
      repeat' (first | (refine And.intro ?_ ?_) | exact trivial | exact fun _ _ _ => hsc _ _ | (exact congrArg intV (by first | with_reducible rfl | with_reducible assumption)) | exact (rfl : AV.idsLt _ _ = true) | exact (rfl : _ = AV.ren _ (.own _)) | exact (rfl : _ = AV.ren _ (.fn _ _)) | exact (rfl : _ = AV.ren _ (.gh _)) | (exact congrArg intV (by assumption)) | (refine congrArg intV ((wr_id (by omega) (by omega)).trans (by omega))) | exact rfl | (simp only [Int.toNat_natCast, Int.toNat_zero, Nat.sub_zero, Nat.zero_add]; first | exact rfl | done) | exact all0 | exact fun h => Bool.noConfusion h | exact fun _ _ _ _ => rfl | omega)
    · rcases hk with ⟨h, -⟩ | ⟨-, -, rfl, rfl, rfl⟩ | ⟨-, h, -⟩ | ⟨-, h, -⟩
      · exact absurd hb1.1 h
      · rfl
      · exfalso; omega
      · exfalso; omega
  have hb1 := hb
  by_cases h0 : rmE s = 0
  rotate_left
  · refine sem_loop tab_ok gamRL_ok mixed (by kernel_rfl) (O := lex) (fun t : Nat => ⟨[(0, .c (.sl 2 s.m (c2 s.lo s.hi))), (1, intV s.now), (2, intV s.up), (3, intV s.dn), (4, .c (.sl 1 mp (c1 s.pl))), (14, .c (.sl 1 kb (c1 sc))), (15, intV d), (16, intV e), (17, intV (rmE s)), (82, .c (.sl 1 mp (c1 s.pl))), (83, intV mp), (84, intV t)], []⟩) (fun t => t ≤ mp) (fun t => mp - t) ⟨0, [], Nat.zero_le _, ?_⟩ fun t ht => ?_
    · refine Sub.of ?_ ?_ ?_
      repeat' (first | (refine And.intro ?_ ?_) | exact trivial | exact fun _ _ _ => hsc _ _ | (exact congrArg intV (by first | with_reducible rfl | with_reducible assumption)) | exact (rfl : AV.idsLt _ _ = true) | exact (rfl : _ = AV.ren _ (.own _)) | exact (rfl : _ = AV.ren _ (.fn _ _)) | exact (rfl : _ = AV.ren _ (.gh _)) | (exact congrArg intV (by assumption)) | (refine congrArg intV ((wr_id (by omega) (by omega)).trans (by omega))) | exact rfl | (simp only [Int.toNat_natCast, Int.toNat_zero, Nat.sub_zero, Nat.zero_add]; first | exact rfl | done) | exact all0 | exact fun h => Bool.noConfusion h | exact fun _ _ _ _ => rfl | omega)
    conv => whnf
    repeat' (first
      | (refine NilG.mk fun bn hbn hbx => ?_; conv => whnf)
      | (refine Both.mk ?_ ?_ <;> conv => whnf)
      | exact trivial
      | (refine Br.mk (fun hb => ?_) (fun hb => ?_) <;> (first | (exfalso; revert hb; decide) | ((try simp only [BL] at hb) <;> (try simp only [DL] at hb) <;> (first | (exfalso; omega) | (conv => whnf)))))
      | (refine And.intro ?_ ?_; (focus (first | exact id | exact rfl | exact trivial | (intro hg; first | exact hg | exact rfl | (simp; done) | (simp at hg ⊢; assumption)) | omega | decide | exact is2_c _ _ _ | exact is1_c _ _ | exact isS_c _ _ | exact isB_c _ _ | exact Nat.le_refl _ | assumption | exact mulLe (by decide) (by omega) | exact mulLe2 (by decide) (by omega) (by omega) | (intros; simp only [BL] at *; omega) | (intros; (try simp only [BL] at *); (try simp only [DL] at *); omega) | (intros; simp only [BL] at *; rw [wr_id (by omega) (by omega)]; omega) | (intro h1 h2; exact Bool.and_eq_true_iff.2 ⟨h1, h2⟩) | exact ⟨rfl, by omega, by decide⟩ | (intros; simp_all; done))); conv => whnf)
      | (refine Or.inr (And.intro rfl ?_); first | (refine congrArg intV ?_) | (refine congrArg boolV ?_) | (refine tupII ?_ ?_) | (refine tupIII ?_ ?_ ?_) | (refine tupU ?_ ?_ ?_ ?_ ?_) | exact rfl))
    · refine ⟨t + 1, [], by omega, by omega, ?_⟩
      refine Sub.of ?_ ?_ ?_
      repeat' (first | (refine And.intro ?_ ?_) | exact trivial | exact fun _ _ _ => hsc _ _ | (exact congrArg intV (by first | with_reducible rfl | with_reducible assumption)) | exact (rfl : AV.idsLt _ _ = true) | exact (rfl : _ = AV.ren _ (.own _)) | exact (rfl : _ = AV.ren _ (.fn _ _)) | exact (rfl : _ = AV.ren _ (.gh _)) | (exact congrArg intV (by assumption)) | (refine congrArg intV ((wr_id (by omega) (by omega)).trans (by omega))) | exact rfl | (simp only [Int.toNat_natCast, Int.toNat_zero, Nat.sub_zero, Nat.zero_add]; first | exact rfl | done) | exact all0 | exact fun h => Bool.noConfusion h | exact fun _ _ _ _ => rfl | omega)
    · rcases hk with ⟨-, rfl, rfl, rfl⟩ | ⟨h, -⟩ | ⟨h, -⟩ | ⟨h, -⟩
      · simp
      · exact absurd h h0
      · exact absurd h h0
      · exact absurd h h0
  obtain rfl : mp = s.m := by omega
  rw [h0]
  have hk1 : (¬ rmPl s ∧ kb = 0 ∧ d = 0 ∧ e = 4) ∨ (rmPl s ∧ (rmS s → ((∃ t F, rmNo s t F) ∧ kb = 0 ∧ d = 0 ∧ e = 8) ∨
     ∃ F, rmCh s s.m F ∧ kb = s.m ∧ e = 0 ∧ ∃ lv : Nat → Int, rmEnd (F s.m) (lv s.m) ∧ (∀ t, 1 ≤ t → t < s.m → rmPrev s (F t) (lv (t + 1)) (lv t)) ∧ (∀ t, t < s.m → sc t = lv (t + 1)) ∧ d = if s.m = 0 then 0 else (F s.m).V (lv s.m))) := by
    rcases hk with ⟨h, -⟩ | ⟨-, h, -⟩ | ⟨-, -, h⟩ | ⟨-, -, h⟩
    · exact absurd h0 h
    · exact absurd rfl h
    · exact .inl h
    · exact .inr h
  clear hk
  refine sem_loop tab_ok gamRL_ok mixed (by kernel_rfl) (O := lex) (fun x : Nat × Int => ⟨[(0, .c (.sl 2 s.m (c2 s.lo s.hi))), (1, intV s.now), (2, intV s.up), (3, intV s.dn), (4, .c (.sl 1 s.m (c1 s.pl))), (14, .c (.sl 1 kb (c1 sc))), (15, intV d), (16, intV e), (17, intV x.2), (82, .c (.sl 1 s.m (c1 s.pl))), (83, intV s.m), (84, intV x.1)], []⟩) (fun x => x.1 ≤ s.m ∧ ((x.2 = 4 ∧ ∃ k, k < s.m ∧ ¬ (0 ≤ s.pl k ∧ s.pl k ≤ 100000)) ∨ (x.2 = 0 ∧ ∀ k, k < x.1 → 0 ≤ s.pl k ∧ s.pl k ≤ 100000))) (fun x => s.m - x.1) ⟨(0, 0), [], ⟨Nat.zero_le _, .inr ⟨rfl, fun k hk => absurd hk (Nat.not_lt_zero k)⟩⟩, ?_⟩ fun y hy => ?_
  · refine Sub.of ?_ ?_ ?_
    repeat' (first | (refine And.intro ?_ ?_) | exact trivial | exact fun _ _ _ => hsc _ _ | (exact congrArg intV (by first | with_reducible rfl | with_reducible assumption)) | exact (rfl : AV.idsLt _ _ = true) | exact (rfl : _ = AV.ren _ (.own _)) | exact (rfl : _ = AV.ren _ (.fn _ _)) | exact (rfl : _ = AV.ren _ (.gh _)) | (exact congrArg intV (by assumption)) | (refine congrArg intV ((wr_id (by omega) (by omega)).trans (by omega))) | exact rfl | (simp only [Int.toNat_natCast, Int.toNat_zero, Nat.sub_zero, Nat.zero_add]; first | exact rfl | done) | exact all0 | exact fun h => Bool.noConfusion h | exact fun _ _ _ _ => rfl | omega)
  obtain ⟨t, w⟩ := y
  obtain ⟨ht, hw⟩ := hy
  dsimp only at ht hw ⊢
  conv => whnf
  repeat' (first
    | (refine NilG.mk fun bn hbn hbx => ?_; conv => whnf)
    | (refine Both.mk ?_ ?_ <;> conv => whnf)
    | exact trivial
    | (refine Br.mk (fun hb => ?_) (fun hb => ?_) <;> (first | (exfalso; revert hb; decide) | ((try simp only [BL] at hb) <;> (try simp only [DL] at hb) <;> (first | (exfalso; omega) | (conv => whnf)))))
    | (refine And.intro ?_ ?_; (focus (first | exact id | exact rfl | exact trivial | (intro hg; first | exact hg | exact rfl | (simp; done) | (simp at hg ⊢; assumption)) | omega | decide | exact is2_c _ _ _ | exact is1_c _ _ | exact isS_c _ _ | exact isB_c _ _ | exact Nat.le_refl _ | assumption | exact mulLe (by decide) (by omega) | exact mulLe2 (by decide) (by omega) (by omega) | (intros; simp only [BL] at *; omega) | (intros; (try simp only [BL] at *); (try simp only [DL] at *); omega) | (intros; simp only [BL] at *; rw [wr_id (by omega) (by omega)]; omega) | (intro h1 h2; exact Bool.and_eq_true_iff.2 ⟨h1, h2⟩) | first | exact ⟨rfl, by omega, by decide⟩ | (intros; simp only [inB, BL] at *; omega) | (intros; simp_all; done))); conv => whnf)
    | (refine Or.inr (And.intro rfl ?_); first | (refine congrArg intV ?_) | (refine congrArg boolV ?_) | (refine tupII ?_ ?_) | (refine tupIII ?_ ?_ ?_) | (refine tupU ?_ ?_ ?_ ?_ ?_) | exact rfl))
  · have e84 : IntKind.i64.wrap ((t : Int) + 1) = ((t + 1 : Nat) : Int) := (wr_id (by omega) (by omega)).trans (by omega)
    refine ⟨(t + 1, (4 : Int)), [], ⟨by show t + 1 ≤ s.m; omega, .inl ⟨rfl, t, by omega, by omega⟩⟩, by show s.m - (t + 1) < s.m - t; omega, ?_⟩
    refine Sub.of ?_ ?_ ?_
    repeat' (first | (refine And.intro ?_ ?_) | exact trivial | exact fun _ _ _ => hsc _ _ | (exact congrArg intV (by first | with_reducible rfl | with_reducible assumption)) | exact (rfl : AV.idsLt _ _ = true) | exact (rfl : _ = AV.ren _ (.own _)) | exact (rfl : _ = AV.ren _ (.fn _ _)) | exact (rfl : _ = AV.ren _ (.gh _)) | (exact congrArg intV (by assumption)) | (refine congrArg intV ((wr_id (by omega) (by omega)).trans (by omega))) | exact rfl | (simp only [Int.toNat_natCast, Int.toNat_zero, Nat.sub_zero, Nat.zero_add]; first | exact rfl | done) | exact all0 | exact fun h => Bool.noConfusion h | exact fun _ _ _ _ => rfl | omega)
  · have e84 : IntKind.i64.wrap ((t : Int) + 1) = ((t + 1 : Nat) : Int) := (wr_id (by omega) (by omega)).trans (by omega)
    have hw2 : (w = 4 ∧ ∃ k, k < s.m ∧ ¬ (0 ≤ s.pl k ∧ s.pl k ≤ 100000)) ∨ (w = 0 ∧ ∀ k, k < t + 1 → 0 ≤ s.pl k ∧ s.pl k ≤ 100000) := by
      rcases hw with h | ⟨h1, h2⟩
      · exact .inl h
      · refine .inr ⟨h1, fun k hk => ?_⟩
        rcases Nat.lt_succ_iff_lt_or_eq.1 hk with h | rfl
        · exact h2 k h
        · omega
    refine ⟨(t + 1, w), [], ⟨by show t + 1 ≤ s.m; omega, hw2⟩, by show s.m - (t + 1) < s.m - t; omega, ?_⟩
    refine Sub.of ?_ ?_ ?_
    repeat' (first | (refine And.intro ?_ ?_) | exact trivial | exact fun _ _ _ => hsc _ _ | (exact congrArg intV (by first | with_reducible rfl | with_reducible assumption)) | exact (rfl : AV.idsLt _ _ = true) | exact (rfl : _ = AV.ren _ (.own _)) | exact (rfl : _ = AV.ren _ (.fn _ _)) | exact (rfl : _ = AV.ren _ (.gh _)) | (exact congrArg intV (by assumption)) | (refine congrArg intV ((wr_id (by omega) (by omega)).trans (by omega))) | exact rfl | (simp only [Int.toNat_natCast, Int.toNat_zero, Nat.sub_zero, Nat.zero_add]; first | exact rfl | done) | exact all0 | exact fun h => Bool.noConfusion h | exact fun _ _ _ _ => rfl | omega)
  · rcases hw with ⟨rfl, k, h1, h2⟩ | ⟨h, -⟩
    · rcases hk1 with ⟨-, rfl, rfl, rfl⟩ | ⟨h, -⟩
      · rfl
      · exact absurd (h k h1) h2
    · exact absurd h hb
  obtain rfl : t = s.m := by omega
  obtain ⟨rfl, hpl⟩ : w = 0 ∧ rmPl s := by
    rcases hw with ⟨rfl, -⟩ | h
    · cases hb
    · exact h
  have hk2 : rmS s → ((∃ t F, rmNo s t F) ∧ kb = 0 ∧ d = 0 ∧ e = 8) ∨
     ∃ F, rmCh s s.m F ∧ kb = s.m ∧ e = 0 ∧ ∃ lv : Nat → Int, rmEnd (F s.m) (lv s.m) ∧ (∀ t, 1 ≤ t → t < s.m → rmPrev s (F t) (lv (t + 1)) (lv t)) ∧ (∀ t, t < s.m → sc t = lv (t + 1)) ∧ d = if s.m = 0 then 0 else (F s.m).V (lv s.m) := by
    rcases hk1 with ⟨h, -⟩ | ⟨-, h⟩
    · exact absurd hpl h
    · exact h
  clear hk1 hw
  have hok : rmOk s ∧ s.m ≤ 24 := by
    unfold rmE at h0
    split at h0
    · cases h0
    · split at h0
      · exact ⟨by assumption, by omega⟩
      · cases h0
  obtain ⟨hs, hm24⟩ := hok
  refine sem_loop tab_ok gamRL_ok mixed (by kernel_rfl) (O := lex) (fun t : Nat => ⟨[(0, .c (.sl 2 s.m (c2 s.lo s.hi))), (1, intV s.now), (2, intV s.up), (3, intV s.dn), (4, .c (.sl 1 s.m (c1 s.pl))), (14, .c (.sl 1 kb (c1 sc))), (15, intV d), (16, intV e), (110, .c (.sl 2 s.m (c2 s.lo s.hi))), (111, intV s.m), (112, intV t)], []⟩) (fun t => t ≤ s.m ∧ ∀ k, k < t → s.hi k ≤ 40 ∧ s.pl k ≤ 40) (fun t => s.m - t) ⟨0, [], ⟨Nat.zero_le _, fun k hk => absurd hk (Nat.not_lt_zero k)⟩, ?_⟩ fun t ht => ?_
  · refine Sub.of ?_ ?_ ?_
    repeat' (first | (refine And.intro ?_ ?_) | exact trivial | exact fun _ _ _ => hsc _ _ | (exact congrArg intV (by first | with_reducible rfl | with_reducible assumption)) | exact (rfl : AV.idsLt _ _ = true) | exact (rfl : _ = AV.ren _ (.own _)) | exact (rfl : _ = AV.ren _ (.fn _ _)) | exact (rfl : _ = AV.ren _ (.gh _)) | (exact congrArg intV (by assumption)) | (refine congrArg intV ((wr_id (by omega) (by omega)).trans (by omega))) | exact rfl | (simp only [Int.toNat_natCast, Int.toNat_zero, Nat.sub_zero, Nat.zero_add]; first | exact rfl | done) | exact all0 | exact fun h => Bool.noConfusion h | exact fun _ _ _ _ => rfl | omega)
  conv => whnf
  repeat' (first
    | (refine NilG.mk fun bn hbn hbx => ?_; conv => whnf)
    | (refine Both.mk ?_ ?_ <;> conv => whnf)
    | exact trivial
    | (refine Br.mk (fun hb => ?_) (fun hb => ?_) <;> (first | (exfalso; revert hb; decide) | ((try simp only [BL] at hb) <;> (try simp only [DL] at hb) <;> (first | (exfalso; omega) | (conv => whnf)))))
    | (refine And.intro ?_ ?_; (focus (first | exact id | exact rfl | exact trivial | (intro hg; first | exact hg | exact rfl | (simp; done) | (simp at hg ⊢; assumption)) | omega | decide | exact is2_c _ _ _ | exact is1_c _ _ | exact isS_c _ _ | exact isB_c _ _ | exact Nat.le_refl _ | assumption | exact mulLe (by decide) (by omega) | exact mulLe2 (by decide) (by omega) (by omega) | (intros; simp only [BL] at *; omega) | (intros; (try simp only [BL] at *); (try simp only [DL] at *); omega) | (intros; simp only [BL] at *; rw [wr_id (by omega) (by omega)]; omega) | (intro h1 h2; exact Bool.and_eq_true_iff.2 ⟨h1, h2⟩) | first | exact ⟨rfl, by omega, by decide⟩ | (intros; simp_all; done))); conv => whnf)
    | (refine Or.inr (And.intro rfl ?_); first | (refine congrArg intV ?_) | (refine congrArg boolV ?_) | (refine tupII ?_ ?_) | (refine tupIII ?_ ?_ ?_) | (refine tupU ?_ ?_ ?_ ?_ ?_) | exact rfl))
  · rfl
  · refine ⟨t + 1, [], ⟨by omega, fun k hk => by
          rcases Nat.lt_succ_iff_lt_or_eq.1 hk with h | rfl
          · exact ht.2 k h
          · omega⟩, by omega, ?_⟩
    refine Sub.of ?_ ?_ ?_
    repeat' (first | (refine And.intro ?_ ?_) | exact trivial | exact fun _ _ _ => hsc _ _ | (exact congrArg intV (by first | with_reducible rfl | with_reducible assumption)) | exact (rfl : AV.idsLt _ _ = true) | exact (rfl : _ = AV.ren _ (.own _)) | exact (rfl : _ = AV.ren _ (.fn _ _)) | exact (rfl : _ = AV.ren _ (.gh _)) | (exact congrArg intV (by assumption)) | (refine congrArg intV ((wr_id (by omega) (by omega)).trans (by omega))) | exact rfl | (simp only [Int.toNat_natCast, Int.toNat_zero, Nat.sub_zero, Nat.zero_add]; first | exact rfl | done) | exact all0 | exact fun h => Bool.noConfusion h | exact fun _ _ _ _ => rfl | omega)
  · rfl
  obtain rfl : t = s.m := by omega
  have hS : rmS s := ⟨by omega, ht.2⟩
  have hk := hk2 hS
  clear hk2
  refine CallG.mk (Fn.mono (rmClimbs s hs hS hpl hm24) ?_)
  rintro obs r ⟨rfl, G, hG, rfl⟩
  conv => whnf
  repeat' (first
    | (refine NilG.mk fun bn hbn hbx => ?_; conv => whnf)
    | (refine Both.mk ?_ ?_ <;> conv => whnf)
    | exact trivial
    | (refine Br.mk (fun hb => ?_) (fun hb => ?_) <;> (first | (exfalso; revert hb; decide) | ((try simp only [BL] at hb) <;> (try simp only [DL] at hb) <;> (first | (exfalso; omega) | (conv => whnf)))))
    | (refine And.intro ?_ ?_; (focus (first | exact id | exact rfl | exact trivial | (intro hg; first | exact hg | exact rfl | (simp; done) | (simp at hg ⊢; assumption)) | omega | decide | exact is2_c _ _ _ | exact is1_c _ _ | exact isS_c _ _ | exact isB_c _ _ | exact Nat.le_refl _ | assumption | exact mulLe (by decide) (by omega) | exact mulLe2 (by decide) (by omega) (by omega) | (intros; simp only [BL] at *; omega) | (intros; (try simp only [BL] at *); (try simp only [DL] at *); omega) | (intros; simp only [BL] at *; rw [wr_id (by omega) (by omega)]; omega) | (intro h1 h2; exact Bool.and_eq_true_iff.2 ⟨h1, h2⟩) | first | exact ⟨rfl, by omega, by decide⟩ | (intros; simp_all; done))); conv => whnf)
    | (refine Or.inr (And.intro rfl ?_); first | (refine congrArg intV ?_) | (refine congrArg boolV ?_) | (refine tupII ?_ ?_) | (refine tupIII ?_ ?_ ?_) | (refine tupU ?_ ?_ ?_ ?_ ?_) | exact rfl))
  have hBs := cl_B hS hpl (Nat.le_refl _) hG s.m (Nat.le_refl _)
  refine sem_loop tab_ok gamRL_ok mixed (by kernel_rfl) (O := lex) (fun x : Nat × Int => ⟨[(0, .c (.sl 2 s.m (c2 s.lo s.hi))), (2, intV s.up), (3, intV s.dn), (4, .c (.sl 1 s.m (c1 s.pl))), (14, .c (.sl 1 kb (c1 sc))), (15, intV d), (16, intV e), (22, .c (.sl 1 (s.m + 1) (clF G))), (23, .c (.sl 1 41 (c1 (G s.m)))), (24, intV x.2), (140, .c (.sl 1 41 (c1 (G s.m)))), (141, intV 41), (142, intV x.1)], []⟩) (fun x => x.1 ≤ 41 ∧ rmSr (G s.m) x.1 x.2) (fun x => 41 - x.1) ⟨(0, -1), [], ⟨Nat.zero_le _, .inl ⟨rfl, fun y hy => absurd hy (Nat.not_lt_zero y)⟩⟩, ?_⟩ fun y hy => ?_
  · refine Sub.of ?_ ?_ ?_
    repeat' (first | (refine And.intro ?_ ?_) | exact trivial | exact fun _ _ _ => hsc _ _ | (exact congrArg intV (by first | with_reducible rfl | with_reducible assumption)) | exact (rfl : AV.idsLt _ _ = true) | exact (rfl : _ = AV.ren _ (.own _)) | exact (rfl : _ = AV.ren _ (.fn _ _)) | exact (rfl : _ = AV.ren _ (.gh _)) | (exact congrArg intV (by assumption)) | (refine congrArg intV ((wr_id (by omega) (by omega)).trans (by omega))) | exact rfl | (simp only [Int.toNat_natCast, Int.toNat_zero, Nat.sub_zero, Nat.zero_add]; first | exact rfl | done) | exact all0 | exact fun h => Bool.noConfusion h | exact fun _ _ _ _ => rfl | omega)
  obtain ⟨z, a⟩ := y
  obtain ⟨hz, hsr⟩ := hy
  dsimp only at hz hsr ⊢
  have ha41 : ¬ a < 0 → 0 ≤ a ∧ a < 41 := fun h => by
    rcases hsr with ⟨h1, -⟩ | ⟨h1, h2, -⟩
    · omega
    · omega
  conv => whnf
  repeat' (first
    | (refine NilG.mk fun bn hbn hbx => ?_; conv => whnf)
    | (refine Both.mk ?_ ?_ <;> conv => whnf)
    | exact trivial
    | (refine Br.mk (fun hb => ?_) (fun hb => ?_) <;> (first | (exfalso; revert hb; decide) | ((try simp only [BL] at hb) <;> (try simp only [DL] at hb) <;> (first | (exfalso; omega) | (conv => whnf)))))
    | (refine And.intro ?_ ?_; (focus (first | exact id | exact rfl | exact trivial | (intro hg; first | exact hg | exact rfl | (simp; done) | (simp at hg ⊢; assumption)) | omega | decide | exact is2_c _ _ _ | exact is1_c _ _ | exact isS_c _ _ | exact isB_c _ _ | exact Nat.le_refl _ | assumption | exact mulLe (by decide) (by omega) | exact mulLe2 (by decide) (by omega) (by omega) | (intros; simp only [BL] at *; omega) | (intros; (try simp only [BL] at *); (try simp only [DL] at *); omega) | (intros; simp only [BL] at *; rw [wr_id (by omega) (by omega)]; omega) | (intro h1 h2; exact Bool.and_eq_true_iff.2 ⟨h1, h2⟩) | first | exact ⟨rfl, by omega, by decide⟩ | (intro h1 h2; have h3 := ha41 (by simp only [BL] at h2; omega); omega) | (intro h2; have h3 := ha41 (by simp only [BL] at h2; omega); omega) | (intros; simp_all; done))); conv => whnf)
    | (refine Or.inr (And.intro rfl ?_); first | (refine congrArg intV ?_) | (refine congrArg boolV ?_) | (refine tupII ?_ ?_) | (refine tupIII ?_ ?_ ?_) | (refine tupU ?_ ?_ ?_ ?_ ?_) | exact rfl))
  · refine ⟨(z + 1, (z : Int)), [], ⟨by show z + 1 ≤ 41; omega, sr_yes hsr hb.1 hb.2⟩, by show 41 - (z + 1) < 41 - z; omega, ?_⟩
    refine Sub.of ?_ ?_ ?_
    repeat' (first | (refine And.intro ?_ ?_) | exact trivial | exact fun _ _ _ => hsc _ _ | (exact congrArg intV (by first | with_reducible rfl | with_reducible assumption)) | exact (rfl : AV.idsLt _ _ = true) | exact (rfl : _ = AV.ren _ (.own _)) | exact (rfl : _ = AV.ren _ (.fn _ _)) | exact (rfl : _ = AV.ren _ (.gh _)) | (exact congrArg intV (by assumption)) | (refine congrArg intV ((wr_id (by omega) (by omega)).trans (by omega))) | exact rfl | (simp only [Int.toNat_natCast, Int.toNat_zero, Nat.sub_zero, Nat.zero_add]; first | exact rfl | done) | exact all0 | exact fun h => Bool.noConfusion h | exact fun _ _ _ _ => rfl | omega)
  · refine ⟨(z + 1, a), [], ⟨by show z + 1 ≤ 41; omega, sr_no hsr hb⟩, by show 41 - (z + 1) < 41 - z; omega, ?_⟩
    refine Sub.of ?_ ?_ ?_
    repeat' (first | (refine And.intro ?_ ?_) | exact trivial | exact fun _ _ _ => hsc _ _ | (exact congrArg intV (by first | with_reducible rfl | with_reducible assumption)) | exact (rfl : AV.idsLt _ _ = true) | exact (rfl : _ = AV.ren _ (.own _)) | exact (rfl : _ = AV.ren _ (.fn _ _)) | exact (rfl : _ = AV.ren _ (.gh _)) | (exact congrArg intV (by assumption)) | (refine congrArg intV ((wr_id (by omega) (by omega)).trans (by omega))) | exact rfl | (simp only [Int.toNat_natCast, Int.toNat_zero, Nat.sub_zero, Nat.zero_add]; first | exact rfl | done) | exact all0 | exact fun h => Bool.noConfusion h | exact fun _ _ _ _ => rfl | omega)
  · obtain rfl : z = 41 := by omega
    rcases hk with ⟨-, rfl, rfl, rfl⟩ | ⟨F, hc, -⟩
    · rfl
    · rcases sr_end (hc.2.2 s.m (Nat.le_refl _)) hm24 (cl_lv hs hS hm24 hG hc s.m (Nat.le_refl _)) hsr with ⟨-, h⟩ | ⟨h, -⟩
      · exact h.elim
      · exfalso; omega
  · obtain rfl : z = 41 := by omega
    have h9 := hRf s hs hS hm24 hG hsr (by omega) hk
    exfalso
    omega
  obtain rfl : z = 41 := by omega
  obtain ⟨h1, h2, h3, F, hc, lv, hlv, hend, hprev, hsc⟩ := hRf s hs hS hm24 hG hsr (by omega) hk
  subst h1 h2
  clear hk hb ha41 hsr
  have hlin : ∀ t, t ≤ s.m → (F t).in (lv t) := fun t ht => by
    by_cases e : t = s.m
    · rw [e]; exact hend.1
    · exact (hprev t (by omega)).1
  have e24 : a = lv s.m := hlv
  refine sem_loop tab_ok gamRL_ok mixed (by kernel_rfl) (O := lex) (fun t : Nat => ⟨[(2, intV s.up), (3, intV s.dn), (4, .c (.sl 1 s.m (c1 s.pl))), (14, .c (.sl 1 s.m (c1 sc))), (22, .c (.sl 1 (s.m + 1) (clF G))), (24, intV (lv t)), (27, intV t)], []⟩) (fun t => t ≤ s.m) (fun t => t) ⟨s.m, [], Nat.le_refl _, ?_⟩ fun t ht => ?_
  · refine Sub.of ?_ ?_ ?_
    repeat' (first | (refine And.intro ?_ ?_) | exact trivial | exact fun _ _ _ => hsc _ _ | (exact congrArg intV (by first | with_reducible rfl | with_reducible assumption)) | exact (rfl : AV.idsLt _ _ = true) | exact (rfl : _ = AV.ren _ (.own _)) | exact (rfl : _ = AV.ren _ (.fn _ _)) | exact (rfl : _ = AV.ren _ (.gh _)) | (exact congrArg intV (by assumption)) | (refine congrArg intV ((wr_id (by omega) (by omega)).trans (by omega))) | exact rfl | (simp only [Int.toNat_natCast, Int.toNat_zero, Nat.sub_zero, Nat.zero_add]; first | exact rfl | done) | exact all0 | exact fun h => Bool.noConfusion h | exact fun _ _ _ _ => rfl | omega)
  by_cases ht0 : t = 0
  · subst ht0
    conv => whnf
    repeat' (first
      | (refine NilG.mk fun bn hbn hbx => ?_; conv => whnf)
      | (refine Both.mk ?_ ?_ <;> conv => whnf)
      | exact trivial
      | (refine Br.mk (fun hb => ?_) (fun hb => ?_) <;> (first | (exfalso; revert hb; decide) | ((try simp only [BL] at hb) <;> (try simp only [DL] at hb) <;> (first | (exfalso; omega) | (conv => whnf)))))
      | (refine And.intro ?_ ?_; (focus (first | exact id | exact rfl | exact trivial | (intro hg; first | exact hg | exact rfl | (simp; done) | (simp at hg ⊢; assumption)) | omega | decide | exact is2_c _ _ _ | exact is1_c _ _ | exact isS_c _ _ | exact isB_c _ _ | exact Nat.le_refl _ | assumption | exact mulLe (by decide) (by omega) | exact mulLe2 (by decide) (by omega) (by omega) | (intros; simp only [BL] at *; omega) | (intros; (try simp only [BL] at *); (try simp only [DL] at *); omega) | (intros; simp only [BL] at *; rw [wr_id (by omega) (by omega)]; omega) | (intro h1 h2; exact Bool.and_eq_true_iff.2 ⟨h1, h2⟩) | (intros; simp_all; done))); conv => whnf)
      | (refine Or.inr (And.intro rfl ?_); first | (refine congrArg intV ?_) | (refine congrArg boolV ?_) | (refine tupII ?_ ?_) | (refine tupIII ?_ ?_ ?_) | (refine tupU ?_ ?_ ?_ ?_ ?_) | exact rfl))
    · rfl
  obtain ⟨j, rfl⟩ : ∃ j, t = j + 1 := ⟨t - 1, by omega⟩
  have ej : IntKind.i64.wrap (((j + 1 : Nat) : Int) - 1) = (j : Int) := (wr_id (by omega) (by omega)).trans (by omega)
  have ej2 : (IntKind.i64.wrap (((j + 1 : Nat) : Int) - 1)).toNat = j := by rw [ej]; omega
  conv => whnf
  repeat' (first
    | (refine NilG.mk fun bn hbn hbx => ?_; conv => whnf)
    | (refine Both.mk ?_ ?_ <;> conv => whnf)
    | exact trivial
    | (refine Br.mk (fun hb => ?_) (fun hb => ?_) <;> (first | (exfalso; revert hb; decide) | ((try simp only [BL] at hb) <;> (try simp only [DL] at hb) <;> (first | (exfalso; omega) | (conv => whnf)))))
    | (refine And.intro ?_ ?_; (focus (first | exact id | exact rfl | exact trivial | (intro hg; first | exact hg | exact rfl | (simp; done) | (simp at hg ⊢; assumption)) | omega | decide | exact is2_c _ _ _ | exact is1_c _ _ | exact isS_c _ _ | exact isB_c _ _ | exact Nat.le_refl _ | assumption | exact mulLe (by decide) (by omega) | exact mulLe2 (by decide) (by omega) (by omega) | (intros; simp only [BL] at *; omega) | (intros; (try simp only [BL] at *); (try simp only [DL] at *); omega) | (intros; simp only [BL] at *; rw [wr_id (by omega) (by omega)]; omega) | (intro h1 h2; exact Bool.and_eq_true_iff.2 ⟨h1, h2⟩) | first | exact ⟨rfl, by rw [ej]; omega, by decide⟩ | exact ⟨rfl, by omega, by decide⟩ | (intros; simp_all; done))); conv => whnf)
    | (refine Or.inr (And.intro rfl ?_); first | (refine congrArg intV ?_) | (refine congrArg boolV ?_) | (refine tupII ?_ ?_) | (refine tupIII ?_ ?_ ?_) | (refine tupU ?_ ?_ ?_ ?_ ?_) | exact rfl))
  · rw [ej2] at hb
    exact absurd (hsc j (by omega)) hb
  have hBj := hc.2.2 j (by omega)
  have hBk := hc.2.2 (j + 1) ht
  have hl := hprev j (by omega)
  have hkin := hlin (j + 1) ht
  have hjin := hlin j (by omega)
  have hkV := rlv_eq (hc.2.1 j (by omega)) hkin hl
  have hpj := hpl j (by omega)
  have hsj := hS.2 j (by omega)
  have k1 := hkin.1
  have k2 := hkin.2
  have j1 := hjin.1
  have j2 := hjin.2
  have b1 := hBj.2.1
  have b2 := hBj.2.2.1
  have b3 := hBk.2.1
  have b4 := hBk.2.2.1
  have hl2 := hl.2.1
  have hl3 := hl.2.2.1
  have hud := hs.2.2
  have wD : IntKind.i64.wrap (0 - s.dn) = -s.dn := (wr_id (by omega) (by omega)).trans (by omega)
  have e28 : max (IntKind.i64.wrap (lv (j + 1) - s.pl (IntKind.i64.wrap (((j + 1 : Nat) : Int) - 1)).toNat)) (IntKind.i64.wrap (s.pl (IntKind.i64.wrap (((j + 1 : Nat) : Int) - 1)).toNat - lv (j + 1))) = dis (lv (j + 1)) (s.pl j) := by
    rw [ej2, wr_id (by omega) (by omega), wr_id (by omega) (by omega)]
    rfl
  have hcl := cl_lv hs hS hm24 hG hc
  have hdis := dis_b (k := lv (j + 1)) (p := s.pl j) (by omega) (by omega)
  have hGk : G (j + 1) (lv (j + 1)).toNat = (F (j + 1)).V (lv (j + 1)) := by
    have h9 := hcl (j + 1) ht (lv (j + 1)).toNat (by omega)
    rw [show (((lv (j + 1)).toNat : Nat) : Int) = lv (j + 1) by omega] at h9
    exact h9.trans (if_pos hkin)
  clear hb
  have hz0 : ((0 : Nat) : Int) ≤ lv j := by omega
  rw [e28]
  refine sem_loop tab_ok gamRL_ok mixed (by kernel_rfl) (O := lex) (fun z : Nat => ⟨[(2, intV s.up), (3, intV s.dn), (4, .c (.sl 1 s.m (c1 s.pl))), (14, .c (.sl 1 s.m (c1 sc))), (22, .c (.sl 1 (s.m + 1) (clF G))), (24, intV (lv (j + 1))), (27, intV ((j + 1 : Nat) : Int)), (28, intV (dis (lv (j + 1)) (s.pl j))), (29, intV z)], []⟩) (fun z => (z : Int) ≤ lv j) (fun z => (lv j - z).toNat) ⟨0, [], hz0, ?_⟩ fun z hz => ?_
  · refine Sub.of ?_ ?_ ?_
    repeat' (first | (refine And.intro ?_ ?_) | exact trivial | exact fun _ _ _ => hsc _ _ | (exact congrArg intV (by first | with_reducible rfl | with_reducible assumption)) | exact (rfl : AV.idsLt _ _ = true) | exact (rfl : _ = AV.ren _ (.own _)) | exact (rfl : _ = AV.ren _ (.fn _ _)) | exact (rfl : _ = AV.ren _ (.gh _)) | (exact congrArg intV (by assumption)) | (refine congrArg intV ((wr_id (by omega) (by omega)).trans (by omega))) | exact rfl | (simp only [Int.toNat_natCast, Int.toNat_zero, Nat.sub_zero, Nat.zero_add]; first | exact rfl | done) | exact all0 | exact fun h => Bool.noConfusion h | exact fun _ _ _ _ => rfl | omega)
  have wI : IntKind.i64.wrap (lv (j + 1) - (z : Int)) = lv (j + 1) - (z : Int) := wr_id (by omega) (by omega)
  have hGz := hcl j (by omega) z (by omega)
  have hmore : ((¬ G j z = 1152921504606846976 ∧ (lv (j + 1) - (z : Int) ≥ -s.dn ∧ lv (j + 1) - (z : Int) ≤ s.up)) ∧ IntKind.i64.wrap (G j z + dis (lv (j + 1)) (s.pl j)) = G (j + 1) (lv (j + 1)).toNat) ↔ (z : Int) = lv j := by
    constructor
    · rintro ⟨⟨c3, c1, c2⟩, c4⟩
      refine Decidable.byContradiction fun hne => ?_
      have hk : (F j).in z := by
        by_cases h : (F j).in z
        · exact h
        · exact absurd (hGz.trans (if_neg h)) c3
      have hv := hBj.2.2.2 _ hk
      have h8 : lvV (F j) z = (F j).V z := if_pos hk
      have h9 := (hl.2.2.2 _ hk c1 c2).2 (by omega)
      rw [hGz, h8, hGk, hkV, wr_id (by omega) (by omega)] at c4
      omega
    · intro e
      have hk : (F j).in z := by rw [e]; exact hjin
      have hv := hBj.2.2.2 _ hk
      have h8 : lvV (F j) z = (F j).V z := if_pos hk
      rw [hGz, h8, hGk, hkV]
      refine ⟨⟨by omega, by omega, by omega⟩, ?_⟩
      rw [wr_id (by omega) (by omega), e]
  conv => whnf
  repeat' (first
    | (refine NilG.mk fun bn hbn hbx => ?_; conv => whnf)
    | (refine Both.mk ?_ ?_ <;> conv => whnf)
    | exact trivial
    | (refine Br.mk (fun hb => ?_) (fun hb => ?_) <;> (first | (exfalso; revert hb; decide) | ((try simp only [BL] at hb) <;> (try simp only [DL] at hb) <;> (first | (exfalso; omega) | (conv => whnf)))))
    | (refine And.intro ?_ ?_; (focus (first | exact id | exact rfl | exact trivial | (intro hg; first | exact hg | exact rfl | (simp; done) | (simp at hg ⊢; assumption)) | omega | decide | exact is2_c _ _ _ | exact is1_c _ _ | exact isS_c _ _ | exact isB_c _ _ | exact Nat.le_refl _ | assumption | exact mulLe (by decide) (by omega) | exact mulLe2 (by decide) (by omega) (by omega) | (intros; simp only [BL] at *; omega) | (intros; (try simp only [BL] at *); (try simp only [DL] at *); omega) | (intros; simp only [BL] at *; rw [wr_id (by omega) (by omega)]; omega) | (intro h1 h2; exact Bool.and_eq_true_iff.2 ⟨h1, h2⟩) | first | exact ⟨rfl, by rw [ej]; omega, by decide⟩ | exact ⟨rfl, by omega, by decide⟩ | (intros; first | (rw [ej]; omega) | omega | (simp only [inB, BL] at *; omega)) | (intros; simp_all; done))); conv => whnf)
    | (refine Or.inr (And.intro rfl ?_); first | (refine congrArg intV ?_) | (refine congrArg boolV ?_) | (refine tupII ?_ ?_) | (refine tupIII ?_ ?_ ?_) | (refine tupU ?_ ?_ ?_ ?_ ?_) | exact rfl))
  · rw [ej2, wI, wD] at hb
    have hlt : ¬ (z : Int) = lv j := fun e => by
      obtain ⟨⟨c3, c1, c2⟩, c4⟩ := hmore.2 e
      rcases hb with (h | h) | h
      · exact c3 h
      · rcases h with h | h
        · exact h c1
        · exact h c2
      · exact h c4
    have e29 : IntKind.i64.wrap ((z : Int) + 1) = ((z + 1 : Nat) : Int) := (wr_id (by omega) (by omega)).trans (by omega)
    refine ⟨z + 1, [], by omega, by omega, ?_⟩
    refine Sub.of ?_ ?_ ?_
    repeat' (first | (refine And.intro ?_ ?_) | exact trivial | exact fun _ _ _ => hsc _ _ | (exact congrArg intV (by first | with_reducible rfl | with_reducible assumption)) | exact (rfl : AV.idsLt _ _ = true) | exact (rfl : _ = AV.ren _ (.own _)) | exact (rfl : _ = AV.ren _ (.fn _ _)) | exact (rfl : _ = AV.ren _ (.gh _)) | (exact congrArg intV (by assumption)) | (refine congrArg intV ((wr_id (by omega) (by omega)).trans (by omega))) | exact rfl | (simp only [Int.toNat_natCast, Int.toNat_zero, Nat.sub_zero, Nat.zero_add]; first | exact rfl | done) | exact all0 | exact fun h => Bool.noConfusion h | exact fun _ _ _ _ => rfl | omega)
  · rw [ej2, wI, wD] at hb
    have e : (z : Int) = lv j := hmore.1 (by first | exact hb | exact ⟨⟨hb.1.1, hb.1.2⟩, hb.2⟩)
    refine ⟨j, [], by omega, by omega, ?_⟩
    refine Sub.of ?_ ?_ ?_
    repeat' (first | (refine And.intro ?_ ?_) | exact trivial | exact fun _ _ _ => hsc _ _ | (exact congrArg intV (by first | with_reducible rfl | with_reducible assumption)) | exact (rfl : AV.idsLt _ _ = true) | exact (rfl : _ = AV.ren _ (.own _)) | exact (rfl : _ = AV.ren _ (.fn _ _)) | exact (rfl : _ = AV.ren _ (.gh _)) | (exact congrArg intV (by assumption)) | (refine congrArg intV ((wr_id (by omega) (by omega)).trans (by omega))) | exact rfl | (simp only [Int.toNat_natCast, Int.toNat_zero, Nat.sub_zero, Nat.zero_add]; first | exact rfl | done) | exact all0 | exact fun h => Bool.noConfusion h | exact fun _ _ _ _ => rfl | omega)

theorem rampNearest_own : ownKnob Try.prog.godebug = none := by kernel_rfl
theorem rampNearest_laid : laidOutB Try.prog = true := by kernel_rfl

set_option maxRecDepth 100000 in
theorem rampNearest_lifted (os : Os) (started : os.Started) (H : Type) (enc : TypeId × Value → H) :
    ReturnsInHanded {} Try.checked os 6 .any (Rows.rampNearestSpec.pre6 enc Try.prog Try.f6 Rows.rampNearestRow.domain false) (Rows.rampNearestSpec.post enc Try.prog Try.f6 false true false false) := by
  refine returnsInHanded_of_change (C := Try.checked) rampNearest_own started (by kernel_rfl) Try.func6
    (ChangeSpec.witness6 (enc := enc) (C := Try.checked) false ⟨#[], #[.slice none 0 0, .int .i64 0, .int .i64 0, .int .i64 0, .slice none 0 0], []⟩ 8 (by kernel_rfl) (by kernel_rfl) (by kernel_rfl) (by kernel_rfl)) ?_
  intro W base args ds gs before hval0 hW hcnd _
  have hval : ∀ (j : Nat) t v, Try.f6.params[j]? = some t → args[j]? = some v → Value.okWide Try.prog W .any base t v := hval0
  have hW' : DataW.Whole enc Try.prog Try.f6.params.toList Rows.rampNearestSpec.vars false W args.toList ds gs before := hW
  exact law_post (P := Try.prog) [.sl (.st (.cons (.i .i64) (.cons (.i .i64) .nil))), .i .i64, .i .i64, .i .i64, .sl (.i .i64)] (by kernel_rfl) rampNearest_laid (by kernel_rfl) rfl (tb := 4) rfl (by kernel_rfl) (fun ds h => by
    match ds, h with
    | [d1, d2, d3, d4, d5], _ => rfl) (fun x hx => rnLaw ⟨x.2.1, x.2.2.1, x.2.2.2.1, x.1.1, fun k => (x.1.2 k).1, fun k => (x.1.2 k).2.1, x.2.2.2.2.1.2⟩ x.2.2.2.2.1.1 hx.1.1 hx.2.2.2.2.1.1) W args ds gs before hval hW'

theorem rampNearest_holds : Rows.RampNearestSaid :=
  OpenClaim.holds_of_wide 6 Try.f6 rfl rfl rfl rfl rfl rfl rfl ⟨rfl, rfl, rfl, rfl, rfl⟩ rfl rfl rfl rfl rfl (by kernel_rfl) Try.func6 (by kernel_rfl)
    (of_decide_eq_true (by kernel_rfl)) (by unfold Func.isWrapper; rw [if_neg (by decide +kernel)]; exact ⟨rfl, rfl⟩)
    (fun os started H enc _ => rampNearest_lifted os started H enc)
end Go.Proofs.Ytkkkldhilofgmaa
