/-
  AlarmSays holds: Causes and Explain return what the reference returns, whatever the causes and the alarms.
-/
import Derived.Test.YthbjdcopncebjaaAlF
namespace Go.Proofs.Ythbjdcopncebjaa
open Go.RowKit Go.ChangeShapes Go.WideShapes

def fC : Css := ⟨2, fun k => if k = 0 then ⟨#[66]⟩ else ⟨#[67]⟩, fun k => if k = 0 then ⟨#[65]⟩ else ⟨#[66]⟩⟩
def fL : Nat → ByteArray := fun k => if k = 0 then ⟨#[67]⟩ else if k = 1 then ⟨#[65]⟩ else ⟨#[66]⟩
theorem fC_ok : fC.ok := ⟨by decide, fun k hk => match k, hk with | 0, _ => ⟨by decide, by decide⟩ | 1, _ => ⟨by decide, by decide⟩⟩
theorem fL_ok : nmOk 3 fL := ⟨by decide, fun k hk => match k, hk with | 0, _ => by decide | 1, _ => by decide | 2, _ => by decide⟩
theorem fE : alE fC 3 fL = 0 := by decide +kernel
theorem fL_inj : injN fL 3 := fun a b ha hb => match a, b, ha, hb with
  | 0, 0, _, _ => fun _ => rfl
  | 1, 1, _, _ => fun _ => rfl
  | 2, 2, _, _ => fun _ => rfl
  | 0, 1, _, _ => fun h => absurd h (by decide)
  | 0, 2, _, _ => fun h => absurd h (by decide)
  | 1, 0, _, _ => fun h => absurd h (by decide)
  | 1, 2, _, _ => fun h => absurd h (by decide)
  | 2, 0, _, _ => fun h => absurd h (by decide)
  | 2, 1, _, _ => fun h => absurd h (by decide)
theorem cau_iff {C : Css} {l : Nat → ByteArray} {n : Nat} {a : ByteArray} : cauB C l n a = true ↔ ∀ k, k < n → pth C l n n a (l k) → bl (l k) a = false ∧ pth C l n n (l k) a := by
  unfold cauB
  exact @decide_eq_true_iff _ (_)
theorem fcA : ∀ x, (∃ k, k < 3 ∧ fL k = x ∧ cauB fC fL 3 x = true) ↔ x = ⟨#[65]⟩ := fun x => by
  have hA : ∀ y d, ¬ pth fC fL 3 d ⟨#[65]⟩ y := by
    rintro y d ⟨k, ⟨h1, h2, _⟩, _⟩
    have h1 : k < 2 := h1
    match k, h1 with
    | 0, _ => exact absurd h2 (by decide +kernel)
    | 1, _ => exact absurd h2 (by decide +kernel)
  constructor
  · rintro ⟨k, hk, rfl, hc⟩
    have hc := cau_iff.1 hc
    match k, hk with
    | 1, _ => rfl
    | 0, _ =>
      have h1 : pth fC fL 3 3 ⟨#[67]⟩ (fL 2) := ⟨1, ⟨by decide, rfl, by decide +kernel⟩, .inl rfl⟩
      have h2 := (hc 2 (by decide) h1).1
      exact absurd h2 (by decide +kernel)
    | 2, _ =>
      have h1 : pth fC fL 3 3 ⟨#[66]⟩ (fL 1) := ⟨0, ⟨by decide, rfl, by decide +kernel⟩, .inl rfl⟩
      have h2 := (hc 1 (by decide) h1).1
      exact absurd h2 (by decide +kernel)
  · rintro rfl
    exact ⟨1, by decide, rfl, cau_iff.2 fun k hk h => absurd h (hA _ _)⟩
theorem fcOne {m : Nat} {q : Nat → ByteArray} (h : csP fC fL 3 m q) : m ≤ 1000000 ∧ 1 = m ∧ ∀ i, i < m → q i = (fun k => lY [⟨#[65]⟩] k) i := by
  obtain ⟨h1, h2, h3⟩ := h
  have e : srtN (lY [(⟨#[65]⟩ : ByteArray)]) 1 := stL_lY.2 (List.pairwise_singleton _ _)
  have hu := srt_uniq h2 e fun x => by
    rw [h3 x, fcA x]
    constructor
    · rintro rfl; exact ⟨0, by decide, rfl⟩
    · rintro ⟨j, j1, j2⟩
      obtain rfl : j = 0 := by omega
      exact j2.symm
  exact ⟨by omega, hu.1, fun i hi => hu.2 i hi⟩
def sEqS : List AV → Sd × AV
  | [.c (.sl 1 n f), .c (.sl 1 m g)] => (.p (isS n f ∧ isS m g ∧ n ≤ 1000000 ∧ m = n ∧ ∀ i, i < n → dS f i = dS g i), boolV true)
  | _ => (.p False, .top)
noncomputable def sCau : List AV → Sd × AV
  | [.c (.sl 2 m f), .c (.sl 1 n g), .c (.v (.string a))] => (.p (isC2 m f ∧ isS n g ∧ m ≤ 1000 ∧ n ≤ 1000), boolV (cauB (cssF f m) (dS g) n a))
  | _ => (.p False, .top)
noncomputable def gamAl : Gam := fun f => match f with
  | 14 => some sEqS
  | 42 => some sEqS
  | 40 => some sCau
  | _ => gamAc f
theorem gamAl_ok : GOk Try.prog gamAl := fun f g h => by
  unfold gamAl at h
  split at h
  · injection h with h; subst h
    intro args hs _
    unfold sEqS at hs ⊢
    split at hs
    · exact (alEq _ _ _ _ hs.2.2).le (Le.cons (Le1.sl hs.1) (Le.cons (Le1.sl hs.2.1) Le.nil))
    · exact hs.elim
  · injection h with h; subst h
    intro args hs _
    unfold sEqS at hs ⊢
    split at hs
    · exact (alSame _ _ _ _ hs.2.2).le (Le.cons (Le1.sl hs.1) (Le.cons (Le1.sl hs.2.1) Le.nil))
    · exact hs.elim
  · injection h with h; subst h
    intro args hs _
    unfold sCau at hs ⊢
    split at hs
    · exact (alCau _ _ _ _ hs.2.2.1 hs.2.2.2).le (Le.cons (Le1.sl hs.1) (Le.cons (Le1.sl hs.2.1) (Le.cons (Le1.refl _) Le.nil)))
    · exact hs.elim
  · exact gamAc_ok _ _ h
theorem alE_zero {C : Css} {n : Nat} {l : Nat → ByteArray} (h : alE C n l = 0) : C.m ≤ 40 ∧ n ≤ 24 ∧ injN l n := by
  unfold alE at h
  by_cases h0 : caE C = 0
  · rw [if_pos h0] at h
    by_cases h1 : 24 < n
    · rw [if_pos h1] at h; cases h
    · rw [if_neg h1] at h
      have hm : C.m ≤ 40 := by
        unfold caE at h0
        by_cases h2 : 40 < C.m
        · rw [if_pos h2] at h0; cases h0
        · omega
      refine ⟨hm, by omega, ?_⟩
      have hz : ∀ k, k < n → nmE1 l k = 0 := fst_zero h
      have hk : ∀ k, k < n → ∀ j, j < k → ¬ l j = l k := fun k hk j hj e => by
        have h3 := hz k hk
        unfold nmE1 at h3
        split at h3
        · rw [if_pos (has_iff.2 ⟨j, hj, e⟩)] at h3; cases h3
        · cases h3
      intro a b ha hb e
      rcases Nat.lt_trichotomy a b with c | c | c
      · exact absurd e (hk b hb a c)
      · exact c
      · exact absurd e.symm (hk a ha b c)
  · rw [if_neg h0] at h; exact absurd h h0
theorem alXpA (C : Css) (n : Nat) (l : Nat → ByteArray) (a : ByteArray) (hC : C.ok) (hl : nmOk n l) (hn : n ≤ 12) (h0 : alE C n l = 0) : Fn Try.prog 36 [.c (.sl 2 C.m (cCs C)), .c (.sl 1 n (cS l)), strV a] (fun obs r => obs = [] ∧ ∃ m q, (m ≤ n ∧ srtN q m ∧ ∀ x, (∃ j, j < m ∧ q j = x) ↔ ∃ k, k < n ∧ l k = x ∧ cauB C l n x = true ∧ hasB l n a = true ∧ (x = a ∨ pth C l n n a x)) ∧ r = .tup [.c (.sl 1 m (cS q)), intV (if hasB l n a = true then 0 else 8)]) := by
  obtain ⟨z1, z2, z3⟩ := alE_zero h0
  by_cases h : hasB l n a = true
  · refine Fn.mono (alXp C n l a hC hl hn h0 h z1 z3) ?_
    rintro obs r ⟨rfl, m, q, ⟨q1, q2, q3⟩, rfl⟩
    refine ⟨rfl, m, q, ⟨q1, q2, fun x => (q3 x).trans ?_⟩, by rw [if_pos h]⟩
    constructor
    · rintro ⟨k, k1, k2, k3, k4⟩; exact ⟨k, k1, k2, k3, h, k4⟩
    · rintro ⟨k, k1, k2, k3, _, k4⟩; exact ⟨k, k1, k2, k3, k4⟩
  · refine Fn.res (alXpN C n l a hC hl h0 (Bool.not_eq_true _ ▸ h)) ?_
    rintro obs r ⟨rfl, rfl⟩
    refine ⟨_, ⟨rfl, 0, fun _ => ByteArray.empty, ⟨Nat.zero_le _, fun a b h1 h2 => absurd h2 (Nat.not_lt_zero _), fun x => ⟨fun ⟨j, h1, _⟩ => absurd h1 (Nat.not_lt_zero _), fun ⟨k, _, _, _, h4, _⟩ => absurd h4 h⟩⟩, rfl⟩, ?_⟩
    rw [if_neg h]
    exact Le1.tup (Le.cons Le1.nil (Le.cons (Le1.refl _) Le.nil))
set_option maxHeartbeats 4000000 in
set_option maxRecDepth 100000 in
theorem alLaw (C : Css) (N : Nat) (l : Nat → ByteArray) (a : ByteArray) (hC : C.ok) (hl : nmOk N l) (ha : a.size ≤ maxLen) : Fn1 Try.prog 8 [.c (.sl 2 C.m (cCs C)), .c (.sl 1 N (cS l)), strV a] (boolV true) := by
  refine fn_of_wpx (O := lex) tab_ok gamAl_ok mixed Try.func8 (by kernel_rfl) rfl rfl rfl (by simp [Try.ntmps8]) (by kernel_rfl) ?_
  have hm1 := hC.1
  have hl1 := hl.1
  conv => whnf
  repeat' (first
    | (refine NilG.mk fun bn hbn hbx => ?_; conv => whnf)
    | (refine Both.mk ?_ ?_ <;> conv => whnf)
    | exact trivial
    | (refine Br.mk (fun hb => ?_) (fun hb => ?_) <;> (first | (exfalso; revert hb; decide) | ((try simp only [BL] at hb) <;> (try simp only [DL] at hb) <;> conv => whnf)))
    | (refine And.intro ?_ ?_; (focus (first | exact id | exact rfl | exact trivial | (intro hg; first | exact hg | exact rfl | (simp; done) | (simp at hg ⊢; assumption)) | omega | decide | exact is2_c _ _ _ | exact is1_c _ _ | exact isS_c _ _ | exact isB_c _ _ | exact Nat.le_refl _ | assumption | exact mulLe (by decide) (by omega) | exact mulLe2 (by decide) (by omega) (by omega) | (intros; simp only [BL] at *; omega) | (intros; (try simp only [BL] at *); (try simp only [DL] at *); omega) | (intros; simp only [BL] at *; rw [wr_id (by omega) (by omega)]; omega) | (intro h1 h2; exact Bool.and_eq_true_iff.2 ⟨h1, h2⟩) | (intros; simp_all; done))); conv => whnf)
    | (refine Or.inr (And.intro rfl ?_); first | (refine congrArg intV ?_) | (refine congrArg boolV ?_) | (refine tupII ?_ ?_) | (refine tupIII ?_ ?_ ?_) | (refine tupU ?_ ?_ ?_ ?_ ?_) | exact rfl))
  refine CallG.mk (Fn.mono ((alCs fC 3 fL fC_ok fL_ok (by decide) fE (by decide) fL_inj).le (Le.cons (Le1.sl fun k hk j hj => ?_) (Le.cons (Le1.sl fun k hk j hj => ?_) Le.nil))) ?_)
  · exact (match k, j, hk, hj with | 0, 0, _, _ => rfl | 0, 1, _, _ => rfl | 1, 0, _, _ => rfl | 1, 1, _, _ => rfl)
  · exact (match k, j, hk, hj with | 0, 0, _, _ => rfl | 1, 0, _, _ => rfl | 2, 0, _, _ => rfl)
  rintro obs r ⟨rfl, m0, q0, hq0, rfl⟩
  have hF := fcOne hq0
  obtain ⟨hF1, rfl, hF2⟩ := hF
  conv => whnf
  repeat' (first
    | (refine NilG.mk fun bn hbn hbx => ?_; conv => whnf)
    | (refine Both.mk ?_ ?_ <;> conv => whnf)
    | exact trivial
    | (refine Br.mk (fun hb => ?_) (fun hb => ?_) <;> (first | (exfalso; revert hb; decide) | ((try simp only [BL] at hb) <;> (try simp only [DL] at hb) <;> conv => whnf)))
    | (refine And.intro ?_ ?_; (focus (first | exact id | exact rfl | exact trivial | (intro hg; first | exact hg | exact rfl | (simp; done) | (simp at hg ⊢; assumption)) | omega | decide | exact is2_c _ _ _ | exact is1_c _ _ | exact isS_c _ _ | exact isB_c _ _ | exact Nat.le_refl _ | assumption | exact mulLe (by decide) (by omega) | exact mulLe2 (by decide) (by omega) (by omega) | (intros; simp only [BL] at *; omega) | (intros; (try simp only [BL] at *); (try simp only [DL] at *); omega) | (intros; simp only [BL] at *; rw [wr_id (by omega) (by omega)]; omega) | (intro h1 h2; exact Bool.and_eq_true_iff.2 ⟨h1, h2⟩) | (intros; simp_all; done))); conv => whnf)
    | (refine Or.inr (And.intro rfl ?_); first | (refine congrArg intV ?_) | (refine congrArg boolV ?_) | (refine tupII ?_ ?_) | (refine tupIII ?_ ?_ ?_) | (refine tupU ?_ ?_ ?_ ?_ ?_) | exact rfl))
  refine And.intro (fun _ => ?_) (fun hg => absurd hg (by decide))
  conv => whnf
  repeat' (first
    | (refine NilG.mk fun bn hbn hbx => ?_; conv => whnf)
    | (refine Both.mk ?_ ?_ <;> conv => whnf)
    | exact trivial
    | (refine Br.mk (fun hb => ?_) (fun hb => ?_) <;> (first | (exfalso; revert hb; decide) | ((try simp only [BL] at hb) <;> (try simp only [DL] at hb) <;> conv => whnf)))
    | (refine And.intro ?_ ?_; (focus (first | exact id | exact rfl | exact trivial | (intro hg; first | exact hg | exact rfl | (simp; done) | (simp at hg ⊢; assumption)) | omega | decide | exact is2_c _ _ _ | exact is1_c _ _ | exact isS_c _ _ | exact isB_c _ _ | exact Nat.le_refl _ | assumption | exact mulLe (by decide) (by omega) | exact mulLe2 (by decide) (by omega) (by omega) | (intros; simp only [BL] at *; omega) | (intros; (try simp only [BL] at *); (try simp only [DL] at *); omega) | (intros; simp only [BL] at *; rw [wr_id (by omega) (by omega)]; omega) | (intro h1 h2; exact Bool.and_eq_true_iff.2 ⟨h1, h2⟩) | exact fun _ => ⟨isS_c _ _, fun k hk j hj => (match k, j, hk, hj with | 0, 0, _, _ => rfl), by decide, rfl, fun i hi => (match i, hi with | 0, _ => hF2 0 (by decide))⟩ | (intros; simp_all; done))); conv => whnf)
    | (refine Or.inr (And.intro rfl ?_); first | (refine congrArg intV ?_) | (refine congrArg boolV ?_) | (refine tupII ?_ ?_) | (refine tupIII ?_ ?_ ?_) | (refine tupU ?_ ?_ ?_ ?_ ?_) | exact rfl))
  obtain ⟨M, hM⟩ : ∃ M, M = (min (C.m : Int) 8).toNat - Int.toNat 0 := ⟨_, rfl⟩
  obtain ⟨n, hn⟩ : ∃ n, n = (min (N : Int) 5).toNat - Int.toNat 0 := ⟨_, rfl⟩
  have hM8 : M ≤ 8 ∧ M ≤ C.m := by rw [hM, show Int.toNat 0 = 0 from rfl]; omega
  have hn5 : n ≤ 5 ∧ n ≤ N := by rw [hn, show Int.toNat 0 = 0 from rfl]; omega
  rw [← hM, ← hn]
  obtain ⟨D, hD⟩ : ∃ D : Css, D = ⟨M, fun k => C.of (Int.toNat 0 + k), fun k => C.by_ (Int.toNat 0 + k)⟩ := ⟨_, rfl⟩
  obtain ⟨p, hp⟩ : ∃ p : Nat → ByteArray, p = fun k => l (Int.toNat 0 + k) := ⟨_, rfl⟩
  have hDm : D.m = M := by rw [hD]
  have hDc : (fun k j => cCs C (Int.toNat 0 + k) j) = cCs D := by rw [hD]; rfl
  have hpc : (fun k j => cS l (Int.toNat 0 + k) j) = cS p := by rw [hp]; rfl
  have hDok : D.ok := by
    rw [hD]
    exact ⟨by show M ≤ maxLen; omega, fun k hk => hC.2 _ (by have hk : k < M := hk; show 0 + k < _; omega)⟩
  have hpok : nmOk n p := by
    rw [hp]
    exact ⟨by omega, fun k hk => hl.2 _ (by show 0 + k < _; omega)⟩
  rw [hDc, hpc, ← hDm]
  rw [← hDm] at hM8
  clear hDc hpc hM hn hD hp
  by_cases h0 : alE D n p = 0
  rotate_left
  · refine CallG.mk (Fn.mono (alCsE D n p hDok hpok h0) ?_)
    rintro obs r ⟨rfl, rfl⟩
    conv => whnf
    repeat' (first
      | (refine NilG.mk fun bn hbn hbx => ?_; conv => whnf)
      | (refine Both.mk ?_ ?_ <;> conv => whnf)
      | exact trivial
      | (refine Br.mk (fun hb => ?_) (fun hb => ?_) <;> (first | (exfalso; revert hb; decide) | ((try simp only [BL] at hb) <;> (try simp only [DL] at hb) <;> conv => whnf)))
      | (refine And.intro ?_ ?_; (focus (first | exact id | exact rfl | exact trivial | (intro hg; first | exact hg | exact rfl | (simp; done) | (simp at hg ⊢; assumption)) | omega | decide | exact is2_c _ _ _ | exact is1_c _ _ | exact isS_c _ _ | exact isB_c _ _ | exact Nat.le_refl _ | assumption | exact mulLe (by decide) (by omega) | exact mulLe2 (by decide) (by omega) (by omega) | (intros; simp only [BL] at *; omega) | (intros; (try simp only [BL] at *); (try simp only [DL] at *); omega) | (intros; simp only [BL] at *; rw [wr_id (by omega) (by omega)]; omega) | (intro h1 h2; exact Bool.and_eq_true_iff.2 ⟨h1, h2⟩) | (intros; simp_all; done))); conv => whnf)
      | (refine Or.inr (And.intro rfl ?_); first | (refine congrArg intV ?_) | (refine congrArg boolV ?_) | (refine tupII ?_ ?_) | (refine tupIII ?_ ?_ ?_) | (refine tupU ?_ ?_ ?_ ?_ ?_) | exact rfl))
    refine CallG.mk (Fn.mono (alXpE D n p a hDok hpok h0) ?_)
    rintro obs r ⟨rfl, rfl⟩
    conv => whnf
    repeat' (first
      | (refine NilG.mk fun bn hbn hbx => ?_; conv => whnf)
      | (refine Both.mk ?_ ?_ <;> conv => whnf)
      | exact trivial
      | (refine Br.mk (fun hb => ?_) (fun hb => ?_) <;> (first | (exfalso; revert hb; decide) | ((try simp only [BL] at hb) <;> (try simp only [DL] at hb) <;> conv => whnf)))
      | (refine And.intro ?_ ?_; (focus (first | exact id | exact rfl | exact trivial | (intro hg; first | exact hg | exact rfl | (simp; done) | (simp at hg ⊢; assumption)) | omega | decide | exact is2_c _ _ _ | exact is1_c _ _ | exact isS_c _ _ | exact isB_c _ _ | exact Nat.le_refl _ | assumption | exact mulLe (by decide) (by omega) | exact mulLe2 (by decide) (by omega) (by omega) | (intros; simp only [BL] at *; omega) | (intros; (try simp only [BL] at *); (try simp only [DL] at *); omega) | (intros; simp only [BL] at *; rw [wr_id (by omega) (by omega)]; omega) | (intro h1 h2; exact Bool.and_eq_true_iff.2 ⟨h1, h2⟩) | (intros; simp_all; done))); conv => whnf)
      | (refine Or.inr (And.intro rfl ?_); first | (refine congrArg intV ?_) | (refine congrArg boolV ?_) | (refine tupII ?_ ?_) | (refine tupIII ?_ ?_ ?_) | (refine tupU ?_ ?_ ?_ ?_ ?_) | exact rfl))
    refine CallG.mk (Fn.mono (alErr D n p hDok hpok) ?_)
    rintro obs r ⟨rfl, rfl⟩
    conv => whnf
    repeat' (first
      | (refine NilG.mk fun bn hbn hbx => ?_; conv => whnf)
      | (refine Both.mk ?_ ?_ <;> conv => whnf)
      | exact trivial
      | (refine Br.mk (fun hb => ?_) (fun hb => ?_) <;> (first | (exfalso; revert hb; decide) | ((try simp only [BL] at hb) <;> (try simp only [DL] at hb) <;> (first | (exfalso; omega) | (conv => whnf)))))
      | (refine And.intro ?_ ?_; (focus (first | exact id | exact rfl | exact trivial | (intro hg; first | exact hg | exact rfl | (simp; done) | (simp at hg ⊢; assumption)) | omega | decide | exact is2_c _ _ _ | exact is1_c _ _ | exact isS_c _ _ | exact isB_c _ _ | exact Nat.le_refl _ | assumption | exact mulLe (by decide) (by omega) | exact mulLe2 (by decide) (by omega) (by omega) | (intros; simp only [BL] at *; omega) | (intros; (try simp only [BL] at *); (try simp only [DL] at *); omega) | (intros; simp only [BL] at *; rw [wr_id (by omega) (by omega)]; omega) | (intro h1 h2; exact Bool.and_eq_true_iff.2 ⟨h1, h2⟩) | (intros; simp_all; done))); conv => whnf)
      | (refine Or.inr (And.intro rfl ?_); first | (refine congrArg intV ?_) | (refine congrArg boolV ?_) | (refine tupII ?_ ?_) | (refine tupIII ?_ ?_ ?_) | (refine tupU ?_ ?_ ?_ ?_ ?_) | exact rfl))
    · simp
      decide
  obtain ⟨z1, z2, z3⟩ := alE_zero h0
  refine CallG.mk (Fn.mono (alCs D n p hDok hpok (by omega) h0 z1 z3) ?_)
  rintro obs r ⟨rfl, m, q, ⟨q1, q2, q3⟩, rfl⟩
  conv => whnf
  repeat' (first
    | (refine NilG.mk fun bn hbn hbx => ?_; conv => whnf)
    | (refine Both.mk ?_ ?_ <;> conv => whnf)
    | exact trivial
    | (refine Br.mk (fun hb => ?_) (fun hb => ?_) <;> (first | (exfalso; revert hb; decide) | ((try simp only [BL] at hb) <;> (try simp only [DL] at hb) <;> conv => whnf)))
    | (refine And.intro ?_ ?_; (focus (first | exact id | exact rfl | exact trivial | (intro hg; first | exact hg | exact rfl | (simp; done) | (simp at hg ⊢; assumption)) | omega | decide | exact is2_c _ _ _ | exact is1_c _ _ | exact isS_c _ _ | exact isB_c _ _ | exact Nat.le_refl _ | assumption | exact mulLe (by decide) (by omega) | exact mulLe2 (by decide) (by omega) (by omega) | (intros; simp only [BL] at *; omega) | (intros; (try simp only [BL] at *); (try simp only [DL] at *); omega) | (intros; simp only [BL] at *; rw [wr_id (by omega) (by omega)]; omega) | (intro h1 h2; exact Bool.and_eq_true_iff.2 ⟨h1, h2⟩) | (intros; simp_all; done))); conv => whnf)
    | (refine Or.inr (And.intro rfl ?_); first | (refine congrArg intV ?_) | (refine congrArg boolV ?_) | (refine tupII ?_ ?_) | (refine tupIII ?_ ?_ ?_) | (refine tupU ?_ ?_ ?_ ?_ ?_) | exact rfl))
  refine CallG.mk (Fn.mono (alXpA D n p a hDok hpok (by omega) h0) ?_)
  rintro obs r ⟨rfl, m', q', ⟨q1', q2', q3'⟩, rfl⟩
  conv => whnf
  repeat' (first
    | (refine NilG.mk fun bn hbn hbx => ?_; conv => whnf)
    | (refine Both.mk ?_ ?_ <;> conv => whnf)
    | exact trivial
    | (refine Br.mk (fun hb => ?_) (fun hb => ?_) <;> (first | (exfalso; revert hb; decide) | ((try simp only [BL] at hb) <;> (try simp only [DL] at hb) <;> conv => whnf)))
    | (refine And.intro ?_ ?_; (focus (first | exact id | exact rfl | exact trivial | (intro hg; first | exact hg | exact rfl | (simp; done) | (simp at hg ⊢; assumption)) | omega | decide | exact is2_c _ _ _ | exact is1_c _ _ | exact isS_c _ _ | exact isB_c _ _ | exact Nat.le_refl _ | assumption | exact mulLe (by decide) (by omega) | exact mulLe2 (by decide) (by omega) (by omega) | (intros; simp only [BL] at *; omega) | (intros; (try simp only [BL] at *); (try simp only [DL] at *); omega) | (intros; simp only [BL] at *; rw [wr_id (by omega) (by omega)]; omega) | (intro h1 h2; exact Bool.and_eq_true_iff.2 ⟨h1, h2⟩) | (intros; simp_all; done))); conv => whnf)
    | (refine Or.inr (And.intro rfl ?_); first | (refine congrArg intV ?_) | (refine congrArg boolV ?_) | (refine tupII ?_ ?_) | (refine tupIII ?_ ?_ ?_) | (refine tupU ?_ ?_ ?_ ?_ ?_) | exact rfl))
  refine CallG.mk (Fn.mono (alErr D n p hDok hpok) ?_)
  rintro obs r ⟨rfl, rfl⟩
  rw [h0]
  conv => whnf
  repeat' (first
    | (refine NilG.mk fun bn hbn hbx => ?_; conv => whnf)
    | (refine Both.mk ?_ ?_ <;> conv => whnf)
    | exact trivial
    | (refine Br.mk (fun hb => ?_) (fun hb => ?_) <;> (first | (exfalso; revert hb; decide) | ((try simp only [BL] at hb) <;> (try simp only [DL] at hb) <;> (first | (exfalso; omega) | (conv => whnf)))))
    | (refine And.intro ?_ ?_; (focus (first | exact id | exact rfl | exact trivial | (intro hg; first | exact hg | exact rfl | (simp; done) | (simp at hg ⊢; assumption)) | omega | decide | exact is2_c _ _ _ | exact is1_c _ _ | exact isS_c _ _ | exact isB_c _ _ | exact Nat.le_refl _ | assumption | exact mulLe (by decide) (by omega) | exact mulLe2 (by decide) (by omega) (by omega) | (intros; simp only [BL] at *; omega) | (intros; (try simp only [BL] at *); (try simp only [DL] at *); omega) | (intros; simp only [BL] at *; rw [wr_id (by omega) (by omega)]; omega) | (intro h1 h2; exact Bool.and_eq_true_iff.2 ⟨h1, h2⟩) | exact ⟨isS_c _ _, by unfold maxLen; omega⟩ | (intros; simp_all; done))); conv => whnf)
    | (refine Or.inr (And.intro rfl ?_); first | (refine congrArg intV ?_) | (refine congrArg boolV ?_) | (refine tupII ?_ ?_) | (refine tupIII ?_ ?_ ?_) | (refine tupU ?_ ?_ ?_ ?_ ?_) | exact rfl))
  refine CallG.mk (Fn.mono (alSd n p (by omega) z3) ?_)
  rintro obs r ⟨rfl, w, ⟨w1, w2⟩, rfl⟩
  conv => whnf
  repeat' (first
    | (refine NilG.mk fun bn hbn hbx => ?_; conv => whnf)
    | (refine Both.mk ?_ ?_ <;> conv => whnf)
    | exact trivial
    | (refine Br.mk (fun hb => ?_) (fun hb => ?_) <;> (first | (exfalso; revert hb; decide) | ((try simp only [BL] at hb) <;> (try simp only [DL] at hb) <;> conv => whnf)))
    | (refine And.intro ?_ ?_; (focus (first | exact id | exact rfl | exact trivial | (intro hg; first | exact hg | exact rfl | (simp; done) | (simp at hg ⊢; assumption)) | omega | decide | exact is2_c _ _ _ | exact is1_c _ _ | exact isS_c _ _ | exact isB_c _ _ | exact Nat.le_refl _ | assumption | exact mulLe (by decide) (by omega) | exact mulLe2 (by decide) (by omega) (by omega) | (intros; simp only [BL] at *; omega) | (intros; (try simp only [BL] at *); (try simp only [DL] at *); omega) | (intros; simp only [BL] at *; rw [wr_id (by omega) (by omega)]; omega) | (intro h1 h2; exact Bool.and_eq_true_iff.2 ⟨h1, h2⟩) | (intros; simp_all; done))); conv => whnf)
    | (refine Or.inr (And.intro rfl ?_); first | (refine congrArg intV ?_) | (refine congrArg boolV ?_) | (refine tupII ?_ ?_) | (refine tupIII ?_ ?_ ?_) | (refine tupU ?_ ?_ ?_ ?_ ?_) | exact rfl))
  refine LoopG.nil 14 9 1 rfl ?_
  refine LoopG.nil 15 9 1 rfl ?_
  obtain ⟨P, hP⟩ : ∃ P : ByteArray → Bool, P = fun x => cauB D p n x && (hasB p n a && xplB D p n n a x) := ⟨_, rfl⟩
  refine sem_loop tab_ok gamAl_ok mixed (by kernel_rfl) (O := lex) (fun i : Nat => ⟨[(0, .c (.sl 2 D.m (cCs D))), (1, .c (.sl 1 n (cS p))), (2, strV a), (9, .c (.sl 1 m (cS q))), (10, intV 0), (11, .c (.sl 1 m' (cS q'))), (12, intV (if hasB p n a = true then 0 else 8)), (14, .own 0), (15, .own 1), (16, boolV (hasB p n a)), (84, .c (.sl 1 n (cS w))), (85, intV n), (86, intV i)], [rY ((lsN w i).filter (cauB D p n)), rY ((lsN w i).filter P)]⟩) (fun i => i ≤ n) (fun i => n - i) ⟨0, [?_, ?_], Nat.zero_le _, ?_⟩ fun i hi => ?_
  rotate_left 2
  · refine Sub.of ?_ ?_ ?_
    repeat' (first | (refine And.intro ?_ ?_) | exact trivial | exact fun _ _ _ => hsc _ _ | (exact congrArg intV (by first | with_reducible rfl | with_reducible assumption)) | exact (rfl : AV.idsLt _ _ = true) | exact (rfl : _ = AV.ren _ (.own _)) | exact (rfl : _ = AV.ren _ (.fn _ _)) | exact (rfl : _ = AV.ren _ (.gh _)) | (exact congrArg intV (by assumption)) | (refine congrArg intV ((wr_id (by omega) (by omega)).trans (by omega))) | exact rfl | (simp only [Int.toNat_natCast, Int.toNat_zero, Nat.sub_zero, Nat.zero_add]; first | exact rfl | done) | exact all0 | exact fun h => Bool.noConfusion h | exact fun _ _ _ _ => rfl | omega)
  have hb16 : e9.bytes = 16 := rfl
  have hl1 : ((lsN w i).filter (cauB D p n)).length ≤ i := fl_len _ _ _
  have hl2 : ((lsN w i).filter P).length ≤ i := fl_len _ _ _
  have hPat : P (w i) = (cauB D p n (w i) && (hasB p n a && xplB D p n n a (w i))) := by rw [hP]
  by_cases hin : i < n
  · conv => whnf
    repeat' (first
      | (refine NilG.mk fun bn hbn hbx => ?_; conv => whnf)
      | (refine Both.mk ?_ ?_ <;> conv => whnf)
      | exact trivial
      | (refine Br.mk (fun hb => ?_) (fun hb => ?_) <;> (first | (exfalso; revert hb; decide) | ((try simp only [BL] at hb) <;> (try simp only [DL] at hb) <;> (first | (exfalso; omega) | (conv => whnf)))))
      | (refine And.intro ?_ ?_; (focus (first | exact id | exact rfl | exact trivial | (intro hg; first | exact hg | exact rfl | (simp; done) | (simp at hg ⊢; assumption)) | omega | decide | exact is2_c _ _ _ | exact is1_c _ _ | exact isS_c _ _ | exact isB_c _ _ | exact Nat.le_refl _ | assumption | exact mulLe (by decide) (by omega) | exact mulLe2 (by decide) (by omega) (by omega) | (intros; simp only [BL] at *; omega) | (intros; (try simp only [BL] at *); (try simp only [DL] at *); omega) | (intros; simp only [BL] at *; rw [wr_id (by omega) (by omega)]; omega) | (intro h1 h2; exact Bool.and_eq_true_iff.2 ⟨h1, h2⟩) | first | exact ⟨rfl, by omega, by decide⟩ | exact ⟨isC2_c D, isS_c _ _, by omega, by omega⟩ | exact fun _ => ⟨isC2_c D, isS_c _ _, by omega, by omega, by omega, by omega⟩ | (rw [hb16]; omega) | (intros; simp_all; done))); conv => whnf)
      | (refine Or.inr (And.intro rfl ?_); first | (refine congrArg intV ?_) | (refine congrArg boolV ?_) | (refine tupII ?_ ?_) | (refine tupIII ?_ ?_ ?_) | (refine tupU ?_ ?_ ?_ ?_ ?_) | exact rfl))
    · rename_i hc
      have e1 : (lsN w (i + 1)).filter (cauB D p n) = (lsN w i).filter (cauB D p n) ++ [w i] := flt_len hc
      have e2 : (lsN w (i + 1)).filter P = (lsN w i).filter P ++ [w i] := flt_len (hPat.trans (by
        rw [Bool.and_eq_true, Bool.and_eq_true]
        exact ⟨hc, hb⟩))
      refine ⟨i + 1, [?_, ?_], (by omega : i + 1 ≤ n), by omega, ?_⟩
      rotate_left 2
      refine Sub.of ?_ ?_ ?_
      repeat' (first | (refine And.intro ?_ ?_) | exact trivial | exact fun _ _ _ => hsc _ _ | (exact congrArg intV (by first | with_reducible rfl | with_reducible assumption)) | exact (rfl : AV.idsLt _ _ = true) | exact (rfl : _ = AV.ren _ (.own _)) | exact (rfl : _ = AV.ren _ (.fn _ _)) | exact (rfl : _ = AV.ren _ (.gh _)) | (exact congrArg intV (by assumption)) | (refine congrArg intV ((wr_id (by omega) (by omega)).trans (by omega))) | exact rfl | (simp only [Int.toNat_natCast, Int.toNat_zero, Nat.sub_zero, Nat.zero_add]; first | exact rfl | done) | exact all0 | exact fun h => Bool.noConfusion h | exact fun _ _ _ _ => rfl | omega)
      · rw [e1]; simp
      · rw [e1]; exact apY
      · rw [e2]; simp
      · rw [e2]; exact apY
    · rename_i hc
      have e1 : (lsN w (i + 1)).filter (cauB D p n) = (lsN w i).filter (cauB D p n) ++ [w i] := flt_len hc
      have e2 : (lsN w (i + 1)).filter P = (lsN w i).filter P := flt_no (hPat.trans (by
        rw [Bool.and_eq_false_iff, Bool.and_eq_false_iff]
        exact .inr hb))
      refine ⟨i + 1, [?_, ?_], (by omega : i + 1 ≤ n), by omega, ?_⟩
      rotate_left 2
      refine Sub.of ?_ ?_ ?_
      repeat' (first | (refine And.intro ?_ ?_) | exact trivial | exact fun _ _ _ => hsc _ _ | (exact congrArg intV (by first | with_reducible rfl | with_reducible assumption)) | exact (rfl : AV.idsLt _ _ = true) | exact (rfl : _ = AV.ren _ (.own _)) | exact (rfl : _ = AV.ren _ (.fn _ _)) | exact (rfl : _ = AV.ren _ (.gh _)) | (exact congrArg intV (by assumption)) | (refine congrArg intV ((wr_id (by omega) (by omega)).trans (by omega))) | exact rfl | (simp only [Int.toNat_natCast, Int.toNat_zero, Nat.sub_zero, Nat.zero_add]; first | exact rfl | done) | exact all0 | exact fun h => Bool.noConfusion h | exact fun _ _ _ _ => rfl | omega)
      · rw [e1]; simp
      · rw [e1]; exact apY
      · rw [e2]
      · rw [e2]; exact fun _ _ _ _ => rfl
    · have hc := hb
      have e1 : (lsN w (i + 1)).filter (cauB D p n) = (lsN w i).filter (cauB D p n) := flt_no hc
      have e2 : (lsN w (i + 1)).filter P = (lsN w i).filter P := flt_no (hPat.trans (by
        rw [Bool.and_eq_false_iff]
        exact .inl hc))
      refine ⟨i + 1, [?_, ?_], (by omega : i + 1 ≤ n), by omega, ?_⟩
      rotate_left 2
      refine Sub.of ?_ ?_ ?_
      repeat' (first | (refine And.intro ?_ ?_) | exact trivial | exact fun _ _ _ => hsc _ _ | (exact congrArg intV (by first | with_reducible rfl | with_reducible assumption)) | exact (rfl : AV.idsLt _ _ = true) | exact (rfl : _ = AV.ren _ (.own _)) | exact (rfl : _ = AV.ren _ (.fn _ _)) | exact (rfl : _ = AV.ren _ (.gh _)) | (exact congrArg intV (by assumption)) | (refine congrArg intV ((wr_id (by omega) (by omega)).trans (by omega))) | exact rfl | (simp only [Int.toNat_natCast, Int.toNat_zero, Nat.sub_zero, Nat.zero_add]; first | exact rfl | done) | exact all0 | exact fun h => Bool.noConfusion h | exact fun _ _ _ _ => rfl | omega)
      · rw [e1]
      · rw [e1]; exact fun _ _ _ _ => rfl
      · rw [e2]
      · rw [e2]; exact fun _ _ _ _ => rfl
  · obtain rfl : i = n := by omega
    have hS1 := srt_uniq q2 (stL_lY.2 (List.Pairwise.filter (cauB D p i) (stL_ls w1))) fun x => by
      rw [mem_lY, List.mem_filter, mem_lsN, w2 x, q3 x]
      constructor
      · rintro ⟨k, k1, k2, k3⟩; exact ⟨⟨k, k1, k2⟩, k3⟩
      · rintro ⟨⟨k, k1, k2⟩, k3⟩; exact ⟨k, k1, k2, k3⟩
    have hS2 := srt_uniq q2' (stL_lY.2 (List.Pairwise.filter P (stL_ls w1))) fun x => by
      rw [mem_lY, List.mem_filter, mem_lsN, w2 x, q3' x, hP]
      show _ ↔ (_ ∧ (cauB D p i x && (hasB p i a && xplB D p i i a x)) = true)
      rw [Bool.and_eq_true, Bool.and_eq_true, xplB_iff]
      have hx : ∀ k, k < i → (xpl D p i i a x ↔ x = a ∨ pth D p i i a x) := fun k hk => by
        by_cases e : a = x
        · subst e; exact ⟨fun _ => .inl rfl, fun _ => xpl_refl _ _⟩
        · rw [xpl_pth (by omega) e]
          exact ⟨.inr, fun h => h.resolve_left fun h => e h.symm⟩
      constructor
      · rintro ⟨k, k1, k2, k3, k4, k5⟩; exact ⟨⟨k, k1, k2⟩, k3, k4, (hx k k1).2 k5⟩
      · rintro ⟨⟨k, k1, k2⟩, k3, k4, k5⟩; exact ⟨k, k1, k2, k3, k4, (hx k k1).1 k5⟩
    conv => whnf
    repeat' (first
      | (refine NilG.mk fun bn hbn hbx => ?_; conv => whnf)
      | (refine Both.mk ?_ ?_ <;> conv => whnf)
      | exact trivial
      | (refine Br.mk (fun hb => ?_) (fun hb => ?_) <;> (first | (exfalso; revert hb; decide) | ((try simp only [BL] at hb) <;> (try simp only [DL] at hb) <;> (first | (exfalso; omega) | (conv => whnf)))))
      | (refine And.intro ?_ ?_; (focus (first | exact id | exact rfl | exact trivial | (intro hg; first | exact hg | exact rfl | (simp; done) | (simp at hg ⊢; assumption)) | omega | decide | exact is2_c _ _ _ | exact is1_c _ _ | exact isS_c _ _ | exact isB_c _ _ | exact Nat.le_refl _ | assumption | exact mulLe (by decide) (by omega) | exact mulLe2 (by decide) (by omega) (by omega) | (intros; simp only [BL] at *; omega) | (intros; (try simp only [BL] at *); (try simp only [DL] at *); omega) | (intros; simp only [BL] at *; rw [wr_id (by omega) (by omega)]; omega) | (intro h1 h2; exact Bool.and_eq_true_iff.2 ⟨h1, h2⟩) | first | exact fun _ => ⟨isS_c _ _, isS_c _ _, by omega, hS1.1, hS1.2⟩ | exact fun _ => ⟨isS_c _ _, isS_c _ _, by omega, hS2.1, hS2.2⟩ | (intros; simp_all; done))); conv => whnf)
      | (refine Or.inr (And.intro rfl ?_); first | (refine congrArg intV ?_) | (refine congrArg boolV ?_) | (refine tupII ?_ ?_) | (refine tupIII ?_ ?_ ?_) | (refine tupU ?_ ?_ ?_ ?_ ?_) | exact rfl))
    · have hm0 : m' = 0 := Decidable.byContradiction fun hne => by
        obtain ⟨_, _, _, _, k4, _⟩ := (q3' (q' 0)).1 ⟨0, by omega, rfl⟩
        rw [hb] at k4
        cases k4
      rw [hb, hm0]
      rfl
    · rw [hb]
      rfl
theorem alarmSays_own : ownKnob Try.prog.godebug = none := by kernel_rfl
theorem alarmSays_laid : laidOutB Try.prog = true := by kernel_rfl

set_option maxRecDepth 100000 in
theorem alarmSays_lifted (os : Os) (started : os.Started) (H : Type) (enc : TypeId × Value → H) :
    ReturnsInHanded {} Try.checked os 8 .any (Rows.alarmSaysSpec.pre6 enc Try.prog Try.f8 Rows.alarmSaysRow.domain false) (Rows.alarmSaysSpec.post enc Try.prog Try.f8 false true false false) := by
  refine returnsInHanded_of_change (C := Try.checked) alarmSays_own started (by kernel_rfl) Try.func8
    (ChangeSpec.witness6 (enc := enc) (C := Try.checked) false ⟨#[], #[.slice none 0 0, .slice none 0 0, .string ⟨#[]⟩], []⟩ 8 (by kernel_rfl) (by kernel_rfl) (by kernel_rfl) (by kernel_rfl)) ?_
  intro W base args ds gs before hval0 hW hcnd _
  have hval : ∀ (j : Nat) t v, Try.f8.params[j]? = some t → args[j]? = some v → Value.okWide Try.prog W .any base t v := hval0
  have hW' : DataW.Whole enc Try.prog Try.f8.params.toList Rows.alarmSaysSpec.vars false W args.toList ds gs before := hW
  exact law_post (P := Try.prog) [.sl (.st (.cons .s (.cons .s .nil))), .sl .s, .s] (by kernel_rfl) alarmSays_laid (by kernel_rfl) rfl (tb := 4) rfl (by kernel_rfl) (fun ds h => by
    match ds, h with
    | [d1, d2, d3], _ => rfl) (fun x hx => alLaw ⟨x.1.1, fun k => (x.1.2 k).1, fun k => (x.1.2 k).2.1⟩ x.2.1.1 x.2.1.2 x.2.2.1 ⟨hx.1.1, fun k hk => ⟨(hx.1.2 k hk).1, (hx.1.2 k hk).2.1⟩⟩ hx.2.1 hx.2.2.1) W args ds gs before hval hW'

theorem alarmSays_holds : Rows.AlarmSaysSaid :=
  OpenClaim.holds_of_wide 8 Try.f8 rfl rfl rfl rfl rfl rfl rfl ⟨rfl, rfl, rfl, rfl, rfl⟩ rfl rfl rfl rfl rfl (by kernel_rfl) Try.func8 (by kernel_rfl)
    (of_decide_eq_true (by kernel_rfl)) (by unfold Func.isWrapper; rw [if_neg (by decide +kernel)]; exact ⟨rfl, rfl⟩)
    (fun os started H enc _ => alarmSays_lifted os started H enc)
end Go.Proofs.Ythbjdcopncebjaa
