/-
  What the law of ConvexSums calls; the least sum.
-/
import Derived.Test.YtkkkldhilofgmaaCvxS
namespace Go.Proofs.Ytkkkldhilofgmaa
open Go.RowKit Go.ChangeShapes Go.WideShapes

def riseP : Nat → Int := fun _ => 10
def riseQ : Nat → Int := fun k => if k = 0 then 5 else 8
def riseF (obs : List OB) (r : AV) : Prop := obs = [] ∧ ∃ f, r = .agg [intV 0, intV 0, .c (.sl 2 2 f)] ∧ Sh 2 2 f (c2 riseP riseQ)
theorem rises0 : Fn Try.prog 63 [] riseF := by
  refine fn_of_wpx (O := lex) tab_ok gamX1_ok mixed Try.func63 (by kernel_rfl) rfl rfl rfl (by simp [Try.ntmps63]) (by kernel_rfl) ?_
  conv => whnf
  repeat' (first
    | (refine NilG.mk fun bn hbn hbx => ?_; conv => whnf)
    | (refine Both.mk ?_ ?_ <;> conv => whnf)
    | exact trivial
    | (refine Br.mk (fun hb => ?_) (fun hb => ?_) <;> (first | (exfalso; revert hb; decide) | ((try simp only [BL] at hb) <;> (try simp only [DL] at hb) <;> conv => whnf)))
    | (refine And.intro ?_ ?_; (focus (first | exact id | exact rfl | exact trivial | (intro hg; first | exact hg | exact rfl | (simp; done) | (simp at hg ⊢; assumption)) | omega | decide | exact is2_c _ _ _ | exact is1_c _ _ | exact isS_c _ _ | exact isB_c _ _ | exact Nat.le_refl _ | assumption | exact mulLe (by decide) (by omega) | exact mulLe2 (by decide) (by omega) (by omega) | (intros; simp only [BL] at *; omega) | (intros; (try simp only [BL] at *); (try simp only [DL] at *); omega) | (intros; simp only [BL] at *; rw [wr_id (by omega) (by omega)]; omega) | (intro h1 h2; exact Bool.and_eq_true_iff.2 ⟨h1, h2⟩) | (intros; simp_all; done))); conv => whnf)
    | (refine Or.inr (And.intro rfl ?_); first | (refine congrArg intV ?_) | (refine congrArg boolV ?_) | (refine tupII ?_ ?_) | (refine tupIII ?_ ?_ ?_) | (refine tupU ?_ ?_ ?_ ?_ ?_) | exact rfl))
  refine .inr ⟨rfl, _, rfl, fun k hk j hj => ?_⟩
  match k, j, hk, hj with
  | 0, 0, _, _ => rfl
  | 0, 1, _, _ => rfl
  | 1, 0, _, _ => rfl
  | 1, 1, _, _ => rfl
theorem rises : Fn1 Try.prog 63 [] (cxV 0 0 2 riseP riseQ) :=
  rises0.res fun obs r ⟨h1, f, h2, h3⟩ => ⟨_, ⟨h1, rfl⟩, h2 ▸ Le1.agg (Le.cons (Le1.refl _) (Le.cons (Le1.refl _) (Le.cons (Le1.sl h3) Le.nil)))⟩
def gamX3 : Gam := fun f => match f with
  | 62 => some (sCxi (fun _ _ n _ _ _ => n ≤ maxLen) fun lo v n p q x => .tup [intV (if atE lo v n p q x = 0 then v + S (ct p q (x - lo)) n else 0), intV (atE lo v n p q x)])
  | _ => none
theorem gamX3_ok : GOk Try.prog gamX3 := fun f g h => by
  unfold gamX3 at h
  split at h
  · injection h with h; subst h; exact sCxi_ok cxAt
  · cases h
theorem rise_at : atE 0 0 2 riseP riseQ 12 = 0 ∧ (0 : Int) + S (ct riseP riseQ (12 - 0)) 2 = 66 := by decide
theorem slopes : Fn1 Try.prog 16 [] (boolV true) := by
  refine fn_of_wpx (O := lex) tab_ok gamX3_ok mixed Try.func16 (by kernel_rfl) rfl rfl rfl (by simp [Try.ntmps16]) (by kernel_rfl) ?_
  conv => whnf
  repeat' (first
    | (refine NilG.mk fun bn hbn hbx => ?_; conv => whnf)
    | (refine Both.mk ?_ ?_ <;> conv => whnf)
    | exact trivial
    | (refine Br.mk (fun hb => ?_) (fun hb => ?_) <;> (first | (exfalso; revert hb; decide) | ((try simp only [BL] at hb) <;> (try simp only [DL] at hb) <;> conv => whnf)))
    | (refine And.intro ?_ ?_; (focus (first | exact id | exact rfl | exact trivial | (intro hg; first | exact hg | exact rfl | (simp; done) | (simp at hg ⊢; assumption)) | omega | decide | exact is2_c _ _ _ | exact is1_c _ _ | exact isS_c _ _ | exact isB_c _ _ | exact Nat.le_refl _ | assumption | exact mulLe (by decide) (by omega) | exact mulLe2 (by decide) (by omega) (by omega) | (intros; simp only [BL] at *; omega) | (intros; (try simp only [BL] at *); (try simp only [DL] at *); omega) | (intros; simp only [BL] at *; rw [wr_id (by omega) (by omega)]; omega) | (intro h1 h2; exact Bool.and_eq_true_iff.2 ⟨h1, h2⟩) | (intros; simp_all; done))); conv => whnf)
    | (refine Or.inr (And.intro rfl ?_); first | (refine congrArg intV ?_) | (refine congrArg boolV ?_) | (refine tupII ?_ ?_) | (refine tupIII ?_ ?_ ?_) | (refine tupU ?_ ?_ ?_ ?_ ?_) | exact rfl))
  refine CallG.mk (Fn.mono rises ?_)
  rintro obs r ⟨rfl, rfl⟩
  conv => whnf
  repeat' (first
    | (refine NilG.mk fun bn hbn hbx => ?_; conv => whnf)
    | (refine Both.mk ?_ ?_ <;> conv => whnf)
    | exact trivial
    | (refine Br.mk (fun hb => ?_) (fun hb => ?_) <;> (first | (exfalso; revert hb; decide) | ((try simp only [BL] at hb) <;> (try simp only [DL] at hb) <;> conv => whnf)))
    | (refine And.intro ?_ ?_; (focus (first | exact id | exact rfl | exact trivial | (intro hg; first | exact hg | exact rfl | (simp; done) | (simp at hg ⊢; assumption)) | omega | decide | exact is2_c _ _ _ | exact is1_c _ _ | exact isS_c _ _ | exact isB_c _ _ | exact Nat.le_refl _ | assumption | exact mulLe (by decide) (by omega) | exact mulLe2 (by decide) (by omega) (by omega) | (intros; simp only [BL] at *; omega) | (intros; (try simp only [BL] at *); (try simp only [DL] at *); omega) | (intros; simp only [BL] at *; rw [wr_id (by omega) (by omega)]; omega) | (intro h1 h2; exact Bool.and_eq_true_iff.2 ⟨h1, h2⟩) | exact ⟨is2_c _ _ _, by decide⟩ | (intros; simp_all; done))); conv => whnf)
    | (refine Or.inr (And.intro rfl ?_); first | (refine congrArg intV ?_) | (refine congrArg boolV ?_) | (refine tupII ?_ ?_) | (refine tupIII ?_ ?_ ?_) | (refine tupU ?_ ?_ ?_ ?_ ?_) | exact rfl))
  · show (atE 0 0 2 riseP riseQ 12 == 0 && (if atE 0 0 2 riseP riseQ 12 = 0 then (0 : Int) + S (ct riseP riseQ (12 - 0)) 2 else 0) == 66) = true
    rw [rise_at.1, if_pos rfl, rise_at.2]
    rfl

def sSV : List AV → Sd × AV
  | [.agg [.c (.v (.int .i64 lo)), .c (.v (.int .i64 v)), .c (.sl 2 n f)], .c (.v (.int .i64 low)), .c (.sl 1 m g)] => (.p (is2 n f ∧ is1 m g ∧ okCx lo v n (d0 f) (d1 f) ∧ lo = low ∧ m = cxT n (d0 f) + 1 ∧ ∀ i, i < m → d0 g i = cW v n (d0 f) (d1 f) i), boolV true)
  | _ => (.p False, .top)

def gamXS : Gam := fun f => match f with
  | 16 => some fun args => match args with
    | [] => (.t, boolV true)
    | _ => (.p False, .top)
  | 19 => some (sCx (fun _ _ n _ _ => n ≤ maxLen) fun lo v n p q => intV (cxE lo v n p q))
  | 21 => some sSV
  | _ => none
theorem gamXS_ok : GOk Try.prog gamXS := fun f g h => by
  unfold gamXS at h
  split at h
  · injection h with h; subst h
    intro args hs _
    cases args with
    | nil => exact slopes
    | cons _ _ => exact hs.elim
  · injection h with h; subst h; exact sCx_ok cxErr
  · injection h with h; subst h
    intro args hs _
    unfold sSV at hs ⊢
    split at hs
    · exact (sameVals _ _ _ _ _ _ _ _ hs.2.2.1 hs.2.2.2.1 hs.2.2.2.2.1 hs.2.2.2.2.2).le (Le.cons (cxV_le hs.1) (Le.cons (Le1.refl _) (Le.cons (Le1.sl hs.2.1) Le.nil)))
    · exact hs.elim
  · cases h

/-- the least sum so far: none yet, its value -/
def cvS (X Y : Nat → Int) (ny k : Nat) : Nat → Bool × Int
  | 0 => (true, 0)
  | i + 1 => if i ≤ k ∧ k - i < ny ∧ ((cvS X Y ny k i).1 = true ∨ X i + Y (k - i) < (cvS X Y ny k i).2) then (false, X i + Y (k - i)) else cvS X Y ny k i
theorem cvS_law (X Y : Nat → Int) (ny k : Nat) : ∀ i, ((cvS X Y ny k i).1 = true → ∀ a, a < i → ¬ (a ≤ k ∧ k - a < ny)) ∧
    ((cvS X Y ny k i).1 = false → (∀ a, a < i → a ≤ k → k - a < ny → (cvS X Y ny k i).2 ≤ X a + Y (k - a)) ∧ ∃ a, a < i ∧ a ≤ k ∧ k - a < ny ∧ (cvS X Y ny k i).2 = X a + Y (k - a))
  | 0 => ⟨fun _ a h => absurd h (Nat.not_lt_zero a), fun h => by cases h⟩
  | i + 1 => by
    obtain ⟨h1, h2⟩ := cvS_law X Y ny k i
    simp only [cvS]
    split
    · rename_i hc
      refine ⟨fun h => (by cases h), fun _ => ⟨fun a ha hak hkn => ?_, i, by omega, hc.1, hc.2.1, rfl⟩⟩
      by_cases hai : a = i
      · subst hai; exact Int.le_refl _
      · cases hf : (cvS X Y ny k i).1 with
        | true => exact absurd ⟨hak, hkn⟩ (h1 hf a (by omega))
        | false =>
          have h3 := (h2 hf).1 a (by omega) hak hkn
          rcases hc.2.2 with h4 | h4
          · rw [hf] at h4; cases h4
          · show X i + Y (k - i) ≤ _
            omega
    · rename_i hc
      refine ⟨fun h a ha hv => ?_, fun h => ⟨fun a ha hak hkn => ?_, ?_⟩⟩
      · by_cases hai : a = i
        · subst hai; exact hc ⟨hv.1, hv.2, .inl h⟩
        · exact h1 h a (by omega) hv
      · by_cases hai : a = i
        · subst hai
          by_cases h4 : X a + Y (k - a) < (cvS X Y ny k a).2
          · exact absurd ⟨hak, hkn, .inr h4⟩ hc
          · omega
        · exact (h2 h).1 a (by omega) hak hkn
      · obtain ⟨a, b1, b2⟩ := (h2 h).2
        exact ⟨a, by omega, b2⟩
/-- it is the least one -/
theorem cvS_min {X Y : Nat → Int} {nx ny k : Nat} {w : Int} (h1 : ∀ a, a < nx → a ≤ k → k - a < ny → w ≤ X a + Y (k - a)) (h2 : ∃ a, a < nx ∧ a ≤ k ∧ k - a < ny ∧ w = X a + Y (k - a)) : cvS X Y ny k nx = (false, w) := by
  obtain ⟨g1, g2⟩ := cvS_law X Y ny k nx
  obtain ⟨a, a1, a2, a3, a4⟩ := h2
  cases hf : (cvS X Y ny k nx).1 with
  | true => exact absurd ⟨a2, a3⟩ (g1 hf a a1)
  | false =>
    obtain ⟨g3, b, b1, b2, b3, b4⟩ := g2 hf
    have e1 := g3 a a1 a2 a3
    have e2 := h1 b b1 b2 b3
    exact Prod.ext hf (by show (cvS X Y ny k nx).2 = w; omega)
end Go.Proofs.Ytkkkldhilofgmaa
