/-
  DispatchUnits holds: Best takes the cheapest unit again and again, and Price lies between the last and the next one, whatever the input.
-/
import Derived.Test.YtdakikgebfphmaaDspM
import Derived.Test.YtdakikgebfphmaaOffTwo
namespace Go.Proofs.Ytdakikgebfphmaa
open Go.RowKit Go.ChangeShapes Go.WideShapes

theorem uSame (n m : Nat) (x y : Nat → Int) (h : n ≤ 9000000 ∧ m = n ∧ ∀ i, i < n → x i = y i) : Fn1 Try.prog 34 [.c (.sl 1 n (c1 x)), .c (.sl 1 m (c1 y))] (boolV true) := by
  refine fn_of_wpx (O := lex) tab_ok gamZ_ok mixed Try.func34 (by kernel_rfl) rfl rfl rfl (by simp [Try.ntmps34]) (by kernel_rfl) ?_
  obtain ⟨hn, rfl, he⟩ := h
  conv => whnf
  repeat' (first
    | (refine NilG.mk fun bn hbn => ?_; conv => whnf)
    | (refine Both.mk ?_ ?_ <;> conv => whnf)
    | exact trivial
    | (refine Br.mk (fun hb => ?_) (fun hb => ?_) <;> (first | (exfalso; revert hb; decide) | ((try simp only [BL] at hb) <;> (try simp only [DL] at hb) <;> conv => whnf)))
    | (refine And.intro ?_ ?_; (focus (first | exact id | exact rfl | exact trivial | (intro hg; first | exact hg | exact rfl | (simp; done) | (simp at hg ⊢; assumption)) | omega | decide | exact is2_c _ _ _ | exact is1_c _ _ | exact isS_c _ _ | exact isB_c _ _ | exact Nat.le_refl _ | assumption | exact mulLe (by decide) (by omega) | exact mulLe2 (by decide) (by omega) (by omega) | (intros; simp only [BL] at *; omega) | (intros; (try simp only [BL] at *); (try simp only [DL] at *); omega) | (intros; simp only [BL] at *; rw [wr_id (by omega) (by omega)]; omega) | (intros; simp_all; done))); conv => whnf)
    | (refine Or.inr (And.intro rfl ?_); first | (refine congrArg intV ?_) | (refine congrArg boolV ?_) | (refine tupII ?_ ?_) | (refine tupIII ?_ ?_ ?_) | (refine tupU ?_ ?_ ?_ ?_ ?_) | exact rfl))
  · exact absurd trivial hb
  refine sem_loop tab_ok gamZ_ok mixed (by kernel_rfl) (O := lex) (fun i : Nat => ⟨[(13, intV i), (12, intV m), (0, .c (.sl 1 m (c1 x))), (1, .c (.sl 1 m (c1 y)))], []⟩) (fun i => i ≤ m) (fun i => m - i) ⟨0, [], Nat.zero_le _, ?_⟩ fun i hi => ?_
  · refine Sub.of ?_ ?_ ?_
    repeat' (first | (refine And.intro ?_ ?_) | exact trivial | exact fun _ _ _ => hsc _ _ | (exact congrArg intV (by first | with_reducible rfl | with_reducible assumption)) | exact (rfl : AV.idsLt _ _ = true) | exact (rfl : _ = AV.ren _ (.own _)) | exact (rfl : _ = AV.ren _ (.fn _ _)) | exact (rfl : _ = AV.ren _ (.gh _)) | (exact congrArg intV (by assumption)) | (refine congrArg intV ((wr_id (by omega) (by omega)).trans (by omega))) | exact rfl | (simp only [Int.toNat_natCast, Int.toNat_zero, Nat.sub_zero, Nat.zero_add]; first | exact rfl | done) | exact all0 | exact fun h => Bool.noConfusion h | exact fun _ _ _ _ => rfl | omega)
  conv => whnf
  repeat' (first
    | (refine NilG.mk fun bn hbn => ?_; conv => whnf)
    | (refine Both.mk ?_ ?_ <;> conv => whnf)
    | exact trivial
    | (refine Br.mk (fun hb => ?_) (fun hb => ?_) <;> (first | (exfalso; revert hb; decide) | ((try simp only [BL] at hb) <;> (try simp only [DL] at hb) <;> conv => whnf)))
    | (refine And.intro ?_ ?_; (focus (first | exact id | exact rfl | exact trivial | (intro hg; first | exact hg | exact rfl | (simp; done) | (simp at hg ⊢; assumption)) | omega | decide | exact is2_c _ _ _ | exact is1_c _ _ | exact isS_c _ _ | exact isB_c _ _ | exact Nat.le_refl _ | assumption | exact mulLe (by decide) (by omega) | exact mulLe2 (by decide) (by omega) (by omega) | (intros; simp only [BL] at *; omega) | (intros; (try simp only [BL] at *); (try simp only [DL] at *); omega) | (intros; simp only [BL] at *; rw [wr_id (by omega) (by omega)]; omega) | (intros; simp_all; done))); conv => whnf)
    | (refine Or.inr (And.intro rfl ?_); first | (refine congrArg intV ?_) | (refine congrArg boolV ?_) | (refine tupII ?_ ?_) | (refine tupIII ?_ ?_ ?_) | (refine tupU ?_ ?_ ?_ ?_ ?_) | exact rfl))
  · exact absurd (he i (by omega)) hb
  · refine ⟨i + 1, [], by omega, by omega, ?_⟩
    refine Sub.of ?_ ?_ ?_
    repeat' (first | (refine And.intro ?_ ?_) | exact trivial | exact fun _ _ _ => hsc _ _ | (exact congrArg intV (by first | with_reducible rfl | with_reducible assumption)) | exact (rfl : AV.idsLt _ _ = true) | exact (rfl : _ = AV.ren _ (.own _)) | exact (rfl : _ = AV.ren _ (.fn _ _)) | exact (rfl : _ = AV.ren _ (.gh _)) | (exact congrArg intV (by assumption)) | (refine congrArg intV ((wr_id (by omega) (by omega)).trans (by omega))) | exact rfl | (simp only [Int.toNat_natCast, Int.toNat_zero, Nat.sub_zero, Nat.zero_add]; first | exact rfl | done) | exact all0 | exact fun h => Bool.noConfusion h | exact fun _ _ _ _ => rfl | omega)
  · rfl
def sUI : List AV → Sd × AV
  | [.c (.sl 1 n f), .c (.sl 1 m g)] => (.p (is1 n f ∧ is1 m g ∧ n ≤ 9000000 ∧ m = n ∧ ∀ i, i < n → d0 f i = d0 g i), boolV true)
  | _ => (.p False, .top)
def gamQ5 : Gam := fun f => match f with
  | 25 => some (sOl fun n s m p q => intV (offsE n s m p q))
  | 22 => some (s3 inB)
  | 26 => some (sO (fun _ n p q => okOff n p q) fun _ n p _ => intV (S p n))
  | 27 => some (sOi (fun _ n p q x => okOff n p q ∧ 0 ≤ x ∧ x ≤ 2000000) fun _ n p q x => intV (S (ct p q x) n))
  | 52 => some (sOi (fun _ n p q _ => okOff n p q) fun _ n p q x => intV (U p q n x))
  | 34 => some sUI
  | _ => none
theorem gamQ5_ok : GOk Try.prog gamQ5 := fun f g h => by
  unfold gamQ5 at h
  split at h
  · injection h with h; subst h; exact sOl_ok fun s m p q n h1 h2 => offsError s m p q n h1 h2
  · injection h with h; subst h; exact s3_ok in3
  · injection h with h; subst h; exact sO_ok offAll
  · injection h with h; subst h; exact sOi_ok offCost3
  · injection h with h; subst h; exact sOi_ok fun s n p q x hp => offUnit s n p q x hp
  · injection h with h; subst h
    intro args hs _
    unfold sUI at hs ⊢
    split at hs
    · exact (uSame _ _ _ _ hs.2.2).le (Le.cons (Le1.sl hs.1) (Le.cons (Le1.sl hs.2.1) Le.nil))
    · exact hs.elim
  · cases h

theorem uTup {bs' bs : List AV} (h : Le bs' bs) : Le1 (.tup bs') (.tup bs) := fun σ I w v hd => by
  simp only [Den] at hd ⊢
  obtain ⟨us, e, h1⟩ := hd
  exact ⟨us, e, h _ _ _ _ h1⟩
theorem uNil {sz : Nat} {f : Nat → Nat → L} : Le1 (.c (.v (.slice none 0 0))) (.c (.sl sz 0 f)) := fun σ I w v hd => by
  simp only [Den, L.rd] at hd ⊢
  obtain ⟨rfl, _⟩ := hd
  exact ⟨none, 0, rfl, Nat.le_refl _, Nat.zero_le _, fun h => absurd h (Nat.lt_irrefl 0)⟩
/-- the results of Best, of Price, in one form -/
def bestG (n : Nat) (s : Nat → ByteArray) (m : Nat → Nat) (p q : Nat → Nat → Int) (T : Int) (obs : List OB) (v : AV) : Prop :=
  obs = [] ∧ ∃ K g c, v = .tup [.c (.sl 1 K (c1 g)), intV c, intV (dckE n s m p q T)] ∧ (dckE n s m p q T ≠ 0 → K = 0 ∧ c = 0) ∧
    (dckE n s m p q T = 0 → K = n ∧ ∃ π, Sorted (bSz m q n) π (oN m n) ∧ (g = fun k => bX m p n π T k (oN m n)) ∧ c = S (fun b => bTk m p n π T b * bSz m q n (π b)) (oN m n))
def priceG (n : Nat) (s : Nat → ByteArray) (m : Nat → Nat) (p q : Nat → Nat → Int) (T : Int) (obs : List OB) (v : AV) : Prop :=
  obs = [] ∧ ∃ lo hi, v = .tup [intV lo, intV hi, intV (dckE n s m p q T)] ∧ (dckE n s m p q T ≠ 0 → lo = 0 ∧ hi = 0) ∧
    (dckE n s m p q T = 0 → ∃ π, Sorted (bSz m q n) π (oN m n) ∧ lo = loF m p q (fun k => bX m p n π T k (oN m n)) n ∧ hi = upF m p q (fun k => bX m p n π T k (oN m n)) n)
theorem bestR (s : Nat → ByteArray) (m : Nat → Nat) (p q : Nat → Nat → Int) (n : Nat) (T : Int) (hn : n ≤ maxLen) (hk : ∀ k, k < n → (s k).size ≤ maxLen ∧ m k ≤ maxLen) :
    Fn Try.prog 49 [.c (.sl 2 n (cO s m p q)), intV T] (bestG n s m p q T) :=
  (dspBest s m p q n T hn hk).res fun obs r ⟨h1, h2⟩ => by
    rcases h2 with ⟨h2, rfl⟩ | ⟨h2, π, hq, rfl⟩
    · exact ⟨_, ⟨h1, 0, fun _ => 0, 0, rfl, fun _ => ⟨rfl, rfl⟩, fun h => absurd h h2⟩, uTup (Le.cons uNil (Le.cons (Le1.refl _) (Le.cons (Le1.refl _) Le.nil)))⟩
    · exact ⟨_, ⟨h1, n, _, _, rfl, fun h => absurd h2 h, fun _ => ⟨rfl, π, hq, rfl, rfl⟩⟩, by rw [h2]; exact Le1.refl _⟩
theorem priceR (s : Nat → ByteArray) (m : Nat → Nat) (p q : Nat → Nat → Int) (n : Nat) (T : Int) (hn : n ≤ maxLen) (hk : ∀ k, k < n → (s k).size ≤ maxLen ∧ m k ≤ maxLen) :
    Fn Try.prog 50 [.c (.sl 2 n (cO s m p q)), intV T] (priceG n s m p q T) :=
  (dspPrice s m p q n T hn hk).res fun obs r ⟨h1, h2⟩ => by
    rcases h2 with ⟨h2, rfl⟩ | ⟨h2, π, hq, rfl⟩
    · exact ⟨_, ⟨h1, 0, 0, rfl, fun _ => ⟨rfl, rfl⟩, fun h => absurd h h2⟩, Le1.refl _⟩
    · exact ⟨_, ⟨h1, _, _, rfl, fun h => absurd h2 h, fun _ => ⟨π, hq, rfl, rfl⟩⟩, by rw [h2]; exact Le1.refl _⟩

/-- the example: two offers of 10 at 5 and 10 at 8 -/
def xS (a b : ByteArray) : Nat → ByteArray := fun k => if k = 0 then a else b
def xM : Nat → Nat := fun _ => 2
def xP : Nat → Nat → Int := fun _ => twoP
def xQ : Nat → Nat → Int := fun _ => twoQ
def xPi : Nat → Nat := fun k => id (inI 1 2 k)
theorem xSorted : Sorted (bSz xM xQ 2) xPi (oN xM 2) := by
  refine ⟨fun i j hi hij hj => ?_, rea_in id (by decide) (by decide) (by decide)⟩
  have h4 : oN xM 2 = 4 := rfl
  rw [h4] at hj
  have key : ∀ i, i < 4 → ∀ j, j < 4 → i < j → bSz xM xQ 2 (xPi i) < bSz xM xQ 2 (xPi j) ∨ bSz xM xQ 2 (xPi i) = bSz xM xQ 2 (xPi j) ∧ xPi i < xPi j := by decide
  exact key i (by omega) j hj hij
theorem xUniq {π : Nat → Nat} (h : Sorted (bSz xM xQ 2) π (oN xM 2)) : (∀ k, k < 2 → bX xM xP 2 π 22 k (oN xM 2) = [12, 10].getD k 0) ∧ S (fun b => bTk xM xP 2 π 22 b * bSz xM xQ 2 (π b)) (oN xM 2) = 116 := by
  refine ⟨fun k hk => ?_, ?_⟩
  · rw [bX_uniq h xSorted]
    match k, hk with
    | 0, _ => decide
    | 1, _ => decide
  · have e : S (fun b => bTk xM xP 2 π 22 b * bSz xM xQ 2 (π b)) (oN xM 2) = S (fun b => bTk xM xP 2 xPi 22 b * bSz xM xQ 2 (xPi b)) (oN xM 2) := S_congr fun b hb => by
      unfold bTk
      rw [h.uniq xSorted hb, bCum_uniq h xSorted (Nat.le_of_lt hb), bCum_uniq h xSorted hb]
    rw [e]
    decide

theorem xOffs : offsE 2 (xS ⟨#[65]⟩ ⟨#[66]⟩) xM xP xQ = 0 := by
  have h0 : offE (xS ⟨#[65]⟩ ⟨#[66]⟩ 0) (xM 0) (xP 0) (xQ 0) = 0 := by decide
  have h1 : offE (xS ⟨#[65]⟩ ⟨#[66]⟩ 1) (xM 1) (xP 1) (xQ 1) = 0 := by decide
  have e0 : dupB (xS ⟨#[65]⟩ ⟨#[66]⟩) (xS ⟨#[65]⟩ ⟨#[66]⟩ 0) 0 = false := dup_false fun k hk => absurd hk (Nat.not_lt_zero _)
  have e1 : dupB (xS ⟨#[65]⟩ ⟨#[66]⟩) (xS ⟨#[65]⟩ ⟨#[66]⟩ 1) 1 = false := dup_false fun k hk => by
    obtain rfl : k = 0 := by omega
    unfold sameN xS
    simp [ByteArray.toList, ByteArray.toList.loop, ByteArray.size, ByteArray.get!]
  unfold offsE
  rw [if_neg (by decide)]
  simp [fst, lsE, h0, h1, e0, e1]
theorem xDck : dckE 2 (xS ⟨#[65]⟩ ⟨#[66]⟩) xM xP xQ 22 = 0 := by
  unfold dckE
  rw [if_neg (fun h => h xOffs), if_neg (by decide), if_neg (by decide)]
theorem loF_ge (m : Nat → Nat) (p q : Nat → Nat → Int) (X : Nat → Int) : ∀ i, -2000000 ≤ loF m p q X i
  | 0 => Int.le_refl _
  | i + 1 => by have := loF_ge m p q X i; simp only [loF]; omega
set_option maxHeartbeats 2000000 in
theorem duLaw (s : Nat → ByteArray) (m : Nat → Nat) (p q : Nat → Nat → Int) (n : Nat) (T : Int) (hn : n ≤ maxLen) (hk : ∀ k, k < n → (s k).size ≤ maxLen ∧ m k ≤ maxLen) :
    Fn1 Try.prog 9 [.c (.sl 2 n (cO s m p q)), intV T] (boolV true) := by
  refine fn_of_wpx (O := lex) tab_ok gamQ5_ok mixed Try.func9 (by kernel_rfl) rfl rfl rfl (by simp [Try.ntmps9]) (by kernel_rfl) ?_
  have hn' : n ≤ 9223372036854775807 := hn
  conv => whnf
  repeat' (first
    | (refine NilG.mk fun bn hbn => ?_; conv => whnf)
    | (refine Both.mk ?_ ?_ <;> conv => whnf)
    | exact trivial
    | (refine Br.mk (fun hb => ?_) (fun hb => ?_) <;> (first | (exfalso; revert hb; decide) | ((try simp only [BL] at hb) <;> (try simp only [DL] at hb) <;> conv => whnf)))
    | (refine And.intro ?_ ?_; (focus (first | exact id | exact rfl | exact trivial | (intro hg; first | exact hg | exact rfl | (simp; done) | (simp at hg ⊢; assumption)) | omega | decide | exact is2_c _ _ _ | exact is1_c _ _ | exact isS_c _ _ | exact isB_c _ _ | exact Nat.le_refl _ | assumption | exact mulLe (by decide) (by omega) | exact mulLe2 (by decide) (by omega) (by omega) | (intros; simp only [BL] at *; omega) | (intros; (try simp only [BL] at *); (try simp only [DL] at *); omega) | (intros; simp only [BL] at *; rw [wr_id (by omega) (by omega)]; omega) | (intros; simp_all; done))); conv => whnf)
    | (refine Or.inr (And.intro rfl ?_); first | (refine congrArg intV ?_) | (refine congrArg boolV ?_) | (refine tupII ?_ ?_) | (refine tupIII ?_ ?_ ?_) | (refine tupU ?_ ?_ ?_ ?_ ?_) | exact rfl))
  refine CallG.mk (Fn.mono (two _) ?_)
  rintro obs r ⟨rfl, rfl⟩
  conv => whnf
  repeat' (first
    | (refine NilG.mk fun bn hbn => ?_; conv => whnf)
    | (refine Both.mk ?_ ?_ <;> conv => whnf)
    | exact trivial
    | (refine Br.mk (fun hb => ?_) (fun hb => ?_) <;> (first | (exfalso; revert hb; decide) | ((try simp only [BL] at hb) <;> (try simp only [DL] at hb) <;> conv => whnf)))
    | (refine And.intro ?_ ?_; (focus (first | exact id | exact rfl | exact trivial | (intro hg; first | exact hg | exact rfl | (simp; done) | (simp at hg ⊢; assumption)) | omega | decide | exact is2_c _ _ _ | exact is1_c _ _ | exact isS_c _ _ | exact isB_c _ _ | exact Nat.le_refl _ | assumption | exact mulLe (by decide) (by omega) | exact mulLe2 (by decide) (by omega) (by omega) | (intros; simp only [BL] at *; omega) | (intros; (try simp only [BL] at *); (try simp only [DL] at *); omega) | (intros; simp only [BL] at *; rw [wr_id (by omega) (by omega)]; omega) | (intros; simp_all; done))); conv => whnf)
    | (refine Or.inr (And.intro rfl ?_); first | (refine congrArg intV ?_) | (refine congrArg boolV ?_) | (refine tupII ?_ ?_) | (refine tupIII ?_ ?_ ?_) | (refine tupU ?_ ?_ ?_ ?_ ?_) | exact rfl))
  refine CallG.mk (Fn.mono (two _) ?_)
  rintro obs r ⟨rfl, rfl⟩
  conv => whnf
  repeat' (first
    | (refine NilG.mk fun bn hbn => ?_; conv => whnf)
    | (refine Both.mk ?_ ?_ <;> conv => whnf)
    | exact trivial
    | (refine Br.mk (fun hb => ?_) (fun hb => ?_) <;> (first | (exfalso; revert hb; decide) | ((try simp only [BL] at hb) <;> (try simp only [DL] at hb) <;> conv => whnf)))
    | (refine And.intro ?_ ?_; (focus (first | exact id | exact rfl | exact trivial | (intro hg; first | exact hg | exact rfl | (simp; done) | (simp at hg ⊢; assumption)) | omega | decide | exact is2_c _ _ _ | exact is1_c _ _ | exact isS_c _ _ | exact isB_c _ _ | exact Nat.le_refl _ | assumption | exact mulLe (by decide) (by omega) | exact mulLe2 (by decide) (by omega) (by omega) | (intros; simp only [BL] at *; omega) | (intros; (try simp only [BL] at *); (try simp only [DL] at *); omega) | (intros; simp only [BL] at *; rw [wr_id (by omega) (by omega)]; omega) | (intros; simp_all; done))); conv => whnf)
    | (refine Or.inr (And.intro rfl ?_); first | (refine congrArg intV ?_) | (refine congrArg boolV ?_) | (refine tupII ?_ ?_) | (refine tupIII ?_ ?_ ?_) | (refine tupU ?_ ?_ ?_ ?_ ?_) | exact rfl))
  refine CallG.mk (Fn.mono ((bestR (xS ⟨#[65]⟩ ⟨#[66]⟩) xM xP xQ 2 22 (by decide) (fun k hk => ?_)).le (Le.cons (Le1.l (LLe.sl fun k hk j hj => ?_)) (Le.cons (Le1.refl _) Le.nil))) ?_)
  · match k, hk with
    | 0, _ => exact ⟨by decide, by decide⟩
    | 1, _ => exact ⟨by decide, by decide⟩
  · match k, j, hk, hj with
    | 0, 0, _, _ => exact LLe.of_eq rfl
    | 0, 1, _, _ => exact LLe.of_eq rfl
    | 1, 0, _, _ => exact LLe.of_eq rfl
    | 1, 1, _, _ => exact LLe.of_eq rfl
  rintro obs r ⟨rfl, K, g, c, rfl, _, hg1⟩
  obtain ⟨rfl, π0, hq0, rfl, hc0⟩ := hg1 xDck
  obtain ⟨hx1, hx2⟩ := xUniq hq0
  rw [xDck, hc0, hx2]
  conv => whnf
  repeat' (first
    | (refine NilG.mk fun bn hbn => ?_; conv => whnf)
    | (refine Both.mk ?_ ?_ <;> conv => whnf)
    | exact trivial
    | (refine Br.mk (fun hb => ?_) (fun hb => ?_) <;> (first | (exfalso; revert hb; decide) | ((try simp only [BL] at hb) <;> (try simp only [DL] at hb) <;> conv => whnf)))
    | (refine And.intro ?_ ?_; (focus (first | exact id | exact rfl | exact trivial | (intro hg; first | exact hg | exact rfl | (simp; done) | (simp at hg ⊢; assumption)) | omega | decide | exact is2_c _ _ _ | exact is1_c _ _ | exact isS_c _ _ | exact isB_c _ _ | exact Nat.le_refl _ | assumption | exact mulLe (by decide) (by omega) | exact mulLe2 (by decide) (by omega) (by omega) | (intros; simp only [BL] at *; omega) | (intros; (try simp only [BL] at *); (try simp only [DL] at *); omega) | (intros; simp only [BL] at *; rw [wr_id (by omega) (by omega)]; omega) | (intros; simp_all; done))); conv => whnf)
    | (refine Or.inr (And.intro rfl ?_); first | (refine congrArg intV ?_) | (refine congrArg boolV ?_) | (refine tupII ?_ ?_) | (refine tupIII ?_ ?_ ?_) | (refine tupU ?_ ?_ ?_ ?_ ?_) | exact rfl))
  refine And.intro (fun _ => ?_) (fun hg => absurd hg (by decide))
  conv => whnf
  repeat' (first
    | (refine NilG.mk fun bn hbn => ?_; conv => whnf)
    | (refine Both.mk ?_ ?_ <;> conv => whnf)
    | exact trivial
    | (refine Br.mk (fun hb => ?_) (fun hb => ?_) <;> (first | (exfalso; revert hb; decide) | ((try simp only [BL] at hb) <;> (try simp only [DL] at hb) <;> conv => whnf)))
    | (refine And.intro ?_ ?_; (focus (first | exact id | exact rfl | exact trivial | (intro hg; first | exact hg | exact rfl | (simp; done) | (simp at hg ⊢; assumption)) | omega | decide | exact is2_c _ _ _ | exact is1_c _ _ | exact isS_c _ _ | exact isB_c _ _ | exact Nat.le_refl _ | assumption | exact mulLe (by decide) (by omega) | exact mulLe2 (by decide) (by omega) (by omega) | (intros; simp only [BL] at *; omega) | (intros; (try simp only [BL] at *); (try simp only [DL] at *); omega) | (intros; simp only [BL] at *; rw [wr_id (by omega) (by omega)]; omega) | (intros; simp_all; done))); conv => whnf)
    | (refine Or.inr (And.intro rfl ?_); first | (refine congrArg intV ?_) | (refine congrArg boolV ?_) | (refine tupII ?_ ?_) | (refine tupIII ?_ ?_ ?_) | (refine tupU ?_ ?_ ?_ ?_ ?_) | exact rfl))
  refine And.intro (fun _ => ⟨is1_c _ _, fun k hk j hj => ?_, by decide, rfl, fun i hi => ?_⟩) ?_
  · match k, j, hk, hj with
    | 0, 0, _, _ => rfl
    | 1, 0, _, _ => rfl
  · match i, hi with
    | 0, hi => exact hx1 0 hi
    | 1, hi => exact hx1 1 hi
  clear hx1 hx2 hq0 hg1 hc0
  conv => whnf
  repeat' (first
    | (refine NilG.mk fun bn hbn => ?_; conv => whnf)
    | (refine Both.mk ?_ ?_ <;> conv => whnf)
    | exact trivial
    | (refine Br.mk (fun hb => ?_) (fun hb => ?_) <;> (first | (exfalso; revert hb; decide) | ((try simp only [BL] at hb) <;> (try simp only [DL] at hb) <;> conv => whnf)))
    | (refine And.intro ?_ ?_; (focus (first | exact id | exact rfl | exact trivial | (intro hg; first | exact hg | exact rfl | (simp; done) | (simp at hg ⊢; assumption)) | omega | decide | exact is2_c _ _ _ | exact is1_c _ _ | exact isS_c _ _ | exact isB_c _ _ | exact Nat.le_refl _ | assumption | exact mulLe (by decide) (by omega) | exact mulLe2 (by decide) (by omega) (by omega) | (intros; simp only [BL] at *; omega) | (intros; (try simp only [BL] at *); (try simp only [DL] at *); omega) | (intros; simp only [BL] at *; rw [wr_id (by omega) (by omega)]; omega) | (intros; simp_all; done))); conv => whnf)
    | (refine Or.inr (And.intro rfl ?_); first | (refine congrArg intV ?_) | (refine congrArg boolV ?_) | (refine tupII ?_ ?_) | (refine tupIII ?_ ?_ ?_) | (refine tupU ?_ ?_ ?_ ?_ ?_) | exact rfl))
  refine CallG.mk (Fn.mono (bestR s m p q n T hn hk) ?_)
  rintro obs r ⟨rfl, K, g, c, rfl, hg0, hg1⟩
  conv => whnf
  repeat' (first
    | (refine NilG.mk fun bn hbn => ?_; conv => whnf)
    | (refine Both.mk ?_ ?_ <;> conv => whnf)
    | exact trivial
    | (refine Br.mk (fun hb => ?_) (fun hb => ?_) <;> (first | (exfalso; revert hb; decide) | ((try simp only [BL] at hb) <;> (try simp only [DL] at hb) <;> conv => whnf)))
    | (refine And.intro ?_ ?_; (focus (first | exact id | exact rfl | exact trivial | (intro hg; first | exact hg | exact rfl | (simp; done) | (simp at hg ⊢; assumption)) | omega | decide | exact is2_c _ _ _ | exact is1_c _ _ | exact isS_c _ _ | exact isB_c _ _ | exact Nat.le_refl _ | assumption | exact mulLe (by decide) (by omega) | exact mulLe2 (by decide) (by omega) (by omega) | (intros; simp only [BL] at *; omega) | (intros; (try simp only [BL] at *); (try simp only [DL] at *); omega) | (intros; simp only [BL] at *; rw [wr_id (by omega) (by omega)]; omega) | (intros; simp_all; done))); conv => whnf)
    | (refine Or.inr (And.intro rfl ?_); first | (refine congrArg intV ?_) | (refine congrArg boolV ?_) | (refine tupII ?_ ?_) | (refine tupIII ?_ ?_ ?_) | (refine tupU ?_ ?_ ?_ ?_ ?_) | exact rfl))
  refine CallG.mk (Fn.mono (priceR s m p q n T hn hk) ?_)
  rintro obs r ⟨rfl, lo, hi, rfl, hp0, hp1⟩
  conv => whnf
  repeat' (first
    | (refine NilG.mk fun bn hbn => ?_; conv => whnf)
    | (refine Both.mk ?_ ?_ <;> conv => whnf)
    | exact trivial
    | (refine Br.mk (fun hb => ?_) (fun hb => ?_) <;> (first | (exfalso; revert hb; decide) | ((try simp only [BL] at hb) <;> (try simp only [DL] at hb) <;> conv => whnf)))
    | (refine And.intro ?_ ?_; (focus (first | exact id | exact rfl | exact trivial | (intro hg; first | exact hg | exact rfl | (simp; done) | (simp at hg ⊢; assumption)) | omega | decide | exact is2_c _ _ _ | exact is1_c _ _ | exact isS_c _ _ | exact isB_c _ _ | exact Nat.le_refl _ | assumption | exact mulLe (by decide) (by omega) | exact mulLe2 (by decide) (by omega) (by omega) | (intros; simp only [BL] at *; omega) | (intros; (try simp only [BL] at *); (try simp only [DL] at *); omega) | (intros; simp only [BL] at *; rw [wr_id (by omega) (by omega)]; omega) | (intros; simp_all; done) | exact isO_c hn hk)); conv => whnf)
    | (refine Or.inr (And.intro rfl ?_); first | (refine congrArg intV ?_) | (refine congrArg boolV ?_) | (refine tupII ?_ ?_) | (refine tupIII ?_ ?_ ?_) | (refine tupU ?_ ?_ ?_ ?_ ?_) | exact rfl))
  rotate_left
  · have h0 : ¬ offsE n s m p q = 0 := hb
    have hE : dckE n s m p q T = offsE n s m p q := if_pos h0
    obtain ⟨rfl, rfl⟩ := hg0 (by rw [hE]; exact h0)
    obtain ⟨rfl, rfl⟩ := hp0 (by rw [hE]; exact h0)
    show (dckE n s m p q T == offsE n s m p q && dckE n s m p q T == offsE n s m p q && ((0 : Nat) : Int) == 0 && (0 : Int) == 0 && (0 : Int) == 0 && (0 : Int) == 0) = true
    rw [hE]
    simp
  · contradiction
  · contradiction
  have h0 : offsE n s m p q = 0 := hb
  obtain ⟨hn10, hall⟩ := offsE_zero h0
  have hE : dckE n s m p q T = if T < 0 ∨ 1000000 < T then 4 else if S (oS m p) n < T then 8 else 0 := if_neg (fun h => h h0)
  clear hb
  generalize hEE : dckE n s m p q T = E at hE hg0 hg1 hp0 hp1
  refine sem_loop tab_ok gamQ5_ok mixed (by kernel_rfl) (O := lex) (fun i : Nat => ⟨[(0, .c (.sl 2 n (cO s m p q))), (1, intV T), (8, .c (.sl 1 K (c1 g))), (9, intV c), (10, intV E), (11, intV lo), (12, intV hi), (13, intV E), (14, intV 0), (15, intV (S (oS m p) i)), (62, .c (.sl 2 n (cO s m p q))), (63, intV n), (64, intV i)], []⟩) (fun i => i ≤ n) (fun i => n - i) ⟨0, [], Nat.zero_le _, ?_⟩ fun i hi' => ?_
  · refine Sub.of ?_ ?_ ?_
    repeat' (first | (refine And.intro ?_ ?_) | exact trivial | exact fun _ _ _ => hsc _ _ | (exact congrArg intV (by first | with_reducible rfl | with_reducible assumption)) | exact (rfl : AV.idsLt _ _ = true) | exact (rfl : _ = AV.ren _ (.own _)) | exact (rfl : _ = AV.ren _ (.fn _ _)) | exact (rfl : _ = AV.ren _ (.gh _)) | (exact congrArg intV (by assumption)) | (refine congrArg intV ((wr_id (by omega) (by omega)).trans (by omega))) | exact rfl | (simp only [Int.toNat_natCast, Int.toNat_zero, Nat.sub_zero, Nat.zero_add]; first | exact rfl | done) | exact all0 | exact fun h => Bool.noConfusion h | exact fun _ _ _ _ => rfl | omega)
  have ew : i < n → IntKind.i64.wrap (S (oS m p) i + S (p i) (m i)) = S (oS m p) (i + 1) := fun h => by
    have k1 := oS_le h0 (k := i) (by omega)
    have k2 := oS_le h0 (k := i + 1) (by omega)
    have k3 : S (oS m p) (i + 1) = S (oS m p) i + S (p i) (m i) := rfl
    rw [k3] at k2 ⊢
    exact wr_id (by omega) (by omega)
  conv => whnf
  repeat' (first
    | (refine NilG.mk fun bn hbn => ?_; conv => whnf)
    | (refine Both.mk ?_ ?_ <;> conv => whnf)
    | exact trivial
    | (refine Br.mk (fun hb => ?_) (fun hb => ?_) <;> (first | (exfalso; revert hb; decide) | ((try simp only [BL] at hb) <;> (try simp only [DL] at hb) <;> conv => whnf)))
    | (refine And.intro ?_ ?_; (focus (first | exact id | exact rfl | exact trivial | (intro hg; first | exact hg | exact rfl | (simp; done) | (simp at hg ⊢; assumption)) | omega | decide | exact is2_c _ _ _ | exact is1_c _ _ | exact isS_c _ _ | exact isB_c _ _ | exact Nat.le_refl _ | assumption | exact mulLe (by decide) (by omega) | exact mulLe2 (by decide) (by omega) (by omega) | (intros; simp only [BL] at *; omega) | (intros; (try simp only [BL] at *); (try simp only [DL] at *); omega) | (intros; simp only [BL] at *; rw [wr_id (by omega) (by omega)]; omega) | (intros; simp_all; done) | exact ⟨is2_c _ _ _, (hall i (by omega)).2.1⟩)); conv => whnf)
    | (refine Or.inr (And.intro rfl ?_); first | (refine congrArg intV ?_) | (refine congrArg boolV ?_) | (refine tupII ?_ ?_) | (refine tupIII ?_ ?_ ?_) | (refine tupU ?_ ?_ ?_ ?_ ?_) | exact rfl))
  · have ew := ew (by omega)
    refine ⟨i + 1, [], by omega, by omega, ?_⟩
    refine Sub.of ?_ ?_ ?_
    repeat' (first | (refine And.intro ?_ ?_) | exact trivial | exact fun _ _ _ => hsc _ _ | (exact congrArg intV (by first | with_reducible rfl | with_reducible assumption)) | exact (rfl : AV.idsLt _ _ = true) | exact (rfl : _ = AV.ren _ (.own _)) | exact (rfl : _ = AV.ren _ (.fn _ _)) | exact (rfl : _ = AV.ren _ (.gh _)) | (exact congrArg intV (by assumption)) | (refine congrArg intV ((wr_id (by omega) (by omega)).trans (by omega))) | exact rfl | (simp only [Int.toNat_natCast, Int.toNat_zero, Nat.sub_zero, Nat.zero_add]; first | exact rfl | done) | exact all0 | exact fun h => Bool.noConfusion h | exact fun _ _ _ _ => rfl | omega)
  · rename_i hr _
    have hE4 : E = 4 := by rw [hE, if_pos (by omega)]
    obtain ⟨rfl, rfl⟩ := hg0 (by omega)
    obtain ⟨rfl, rfl⟩ := hp0 (by omega)
    rw [hE4]
    rfl
  · rename_i hr hs _
    obtain rfl : i = n := by omega
    have hE8 : E = 8 := by rw [hE, if_neg (by omega), if_pos (by omega)]
    obtain ⟨rfl, rfl⟩ := hg0 (by omega)
    obtain ⟨rfl, rfl⟩ := hp0 (by omega)
    rw [hE8]
    rfl
  · rfl
  rename_i hr hs _
  obtain rfl : i = n := by omega
  have hE0 : E = 0 := by rw [hE, if_neg (by omega), if_neg (by omega)]
  obtain ⟨rfl, π, hq, rfl, hc⟩ := hg1 hE0
  obtain ⟨π', hq', hlo, hhi⟩ := hp1 hE0
  have hT : 0 ≤ T ∧ T ≤ S (oS m p) K := by omega
  have hs2 := blks2_of h0 hq
  obtain ⟨B, hB⟩ := hs2.at hT.1 hT.2
  have hX' : (fun k => bX m p K π' T k (oN m K)) = fun k => bX m p K π T k (oN m K) := funext fun k => bX_uniq hq' hq T k
  rw [hX'] at hlo hhi
  have hcc : c = S (cK m p q fun k => bX m p K π T k (oN m K)) K := hc.trans (hs2.cost hB)
  have hXk : ∀ k, k < K → 0 ≤ (fun k => bX m p K π T k (oN m K)) k ∧ (fun k => bX m p K π T k (oN m K)) k ≤ S (p k) (m k) := fun k hk => bX_s hs2 hB hk
  refine CallG.mk (Fn.mono (served s m p q K T π h0 hT hs2) ?_)
  rintro obs r ⟨rfl, rfl⟩
  clear hX' hq' hq hc hp1 hg1 hp0 hg0 hE hEE hs hr hb
  subst hE0
  generalize (fun k => bX m p K π T k (oN m K)) = X at *
  have hx2 : ∀ k, k < K → okOff (m k) (p k) (q k) ∧ 0 ≤ X k ∧ X k ≤ 100000 := fun k hk => by
    have := hXk k hk
    have := hall k hk
    exact ⟨this.2.1, by omega, by omega⟩
  conv => whnf
  repeat' (first
    | (refine NilG.mk fun bn hbn => ?_; conv => whnf)
    | (refine Both.mk ?_ ?_ <;> conv => whnf)
    | exact trivial
    | (refine Br.mk (fun hb => ?_) (fun hb => ?_) <;> (first | (exfalso; revert hb; decide) | ((try simp only [BL] at hb) <;> (try simp only [DL] at hb) <;> conv => whnf)))
    | (refine And.intro ?_ ?_; (focus (first | exact id | exact rfl | exact trivial | (intro hg; first | exact hg | exact rfl | (simp; done) | (simp at hg ⊢; assumption)) | omega | decide | exact is2_c _ _ _ | exact is1_c _ _ | exact isS_c _ _ | exact isB_c _ _ | exact Nat.le_refl _ | assumption | exact mulLe (by decide) (by omega) | exact mulLe2 (by decide) (by omega) (by omega) | (intros; simp only [BL] at *; omega) | (intros; (try simp only [BL] at *); (try simp only [DL] at *); omega) | (intros; simp only [BL] at *; rw [wr_id (by omega) (by omega)]; omega) | (intros; simp_all; done))); conv => whnf)
    | (refine Or.inr (And.intro rfl ?_); first | (refine congrArg intV ?_) | (refine congrArg boolV ?_) | (refine tupII ?_ ?_) | (refine tupIII ?_ ?_ ?_) | (refine tupU ?_ ?_ ?_ ?_ ?_) | exact rfl))
  refine sem_loop tab_ok gamQ5_ok mixed (by kernel_rfl) (O := lex) (fun i : Nat => ⟨[(8, .c (.sl 1 K (c1 X))), (9, intV c), (10, intV 0), (11, intV lo), (12, intV hi), (13, intV 0), (18, .c (.sl 1 K (c1 X))), (19, intV (S (cK m p q X) i)), (20, intV (loF m p q X i)), (21, intV (upF m p q X i)), (111, .c (.sl 2 K (cO s m p q))), (112, intV K), (113, intV i)], []⟩) (fun i => i ≤ K) (fun i => K - i) ⟨0, [], Nat.zero_le _, ?_⟩ fun i hi' => ?_
  · refine Sub.of ?_ ?_ ?_
    repeat' (first | (refine And.intro ?_ ?_) | exact trivial | exact fun _ _ _ => hsc _ _ | (exact congrArg intV (by first | with_reducible rfl | with_reducible assumption)) | exact (rfl : AV.idsLt _ _ = true) | exact (rfl : _ = AV.ren _ (.own _)) | exact (rfl : _ = AV.ren _ (.fn _ _)) | exact (rfl : _ = AV.ren _ (.gh _)) | (exact congrArg intV (by assumption)) | (refine congrArg intV ((wr_id (by omega) (by omega)).trans (by omega))) | exact rfl | (simp only [Int.toNat_natCast, Int.toNat_zero, Nat.sub_zero, Nat.zero_add]; first | exact rfl | done) | exact all0 | exact fun h => Bool.noConfusion h | exact fun _ _ _ _ => rfl | omega)
  have ec : i < K → IntKind.i64.wrap (S (cK m p q X) i + S (ct (p i) (q i) (X i)) (m i)) = S (cK m p q X) (i + 1) := fun h => by
    have h2 := fun i (hi : i ≤ K) => S_le (p := cK m p q X) (a := -1200000000000) (b := 1200000000000) (k := i) fun j hj => C_le (hall j (by omega)).2.1 _ (Nat.le_refl _)
    have k1 := h2 (i + 1) h
    have k3 : S (cK m p q X) (i + 1) = S (cK m p q X) i + S (ct (p i) (q i) (X i)) (m i) := rfl
    rw [k3] at k1 ⊢
    exact wr_id (by omega) (by omega)
  have ex : i < K → IntKind.i64.wrap (X i - 1) = X i - 1 := fun h => by
    have := hx2 i h
    exact wr_id (by omega) (by omega)
  have hge := loF_ge m p q X i
  have el : loF m p q X (i + 1) = max (loF m p q X i) (if 0 < X i then U (p i) (q i) (m i) (X i - 1) else -2000000) := rfl
  have eu : min (upF m p q X i) (U (p i) (q i) (m i) (X i)) = upF m p q X (i + 1) := rfl
  conv => whnf
  repeat' (first
    | (refine NilG.mk fun bn hbn => ?_; conv => whnf)
    | (refine Both.mk ?_ ?_ <;> conv => whnf)
    | exact trivial
    | (refine Br.mk (fun hb => ?_) (fun hb => ?_) <;> (first | (exfalso; revert hb; decide) | ((try simp only [BL] at hb) <;> (try simp only [DL] at hb) <;> conv => whnf)))
    | (refine And.intro ?_ ?_; (focus (first | exact id | exact rfl | exact trivial | (intro hg; first | exact hg | exact rfl | (simp; done) | (simp at hg ⊢; assumption)) | omega | decide | exact is2_c _ _ _ | exact is1_c _ _ | exact isS_c _ _ | exact isB_c _ _ | exact Nat.le_refl _ | assumption | exact mulLe (by decide) (by omega) | exact mulLe2 (by decide) (by omega) (by omega) | (intros; simp only [BL] at *; omega) | (intros; (try simp only [BL] at *); (try simp only [DL] at *); omega) | (intros; simp only [BL] at *; rw [wr_id (by omega) (by omega)]; omega) | (intros; simp_all; done) | first | exact ⟨is2_c _ _ _, (hx2 i (by omega)).1, (hx2 i (by omega)).2.1, Int.le_trans (hx2 i (by omega)).2.2 (by decide)⟩ | exact ⟨is2_c _ _ _, (hx2 i (by omega)).1⟩)); conv => whnf)
    | (refine Or.inr (And.intro rfl ?_); first | (refine congrArg intV ?_) | (refine congrArg boolV ?_) | (refine tupII ?_ ?_) | (refine tupIII ?_ ?_ ?_) | (refine tupU ?_ ?_ ?_ ?_ ?_) | exact rfl))
  · have ec := ec (by omega)
    have ex := ex (by omega)
    have h1 : 0 < X i := hb
    rw [if_pos h1] at el
    have el2 : max (loF m p q X i) (U (p i) (q i) (m i) (IntKind.i64.wrap (X i - 1))) = loF m p q X (i + 1) := by rw [ex]; exact el.symm
    refine ⟨i + 1, [], by omega, by omega, ?_⟩
    refine Sub.of ?_ ?_ ?_
    repeat' (first | (refine And.intro ?_ ?_) | exact trivial | exact fun _ _ _ => hsc _ _ | (exact congrArg intV (by first | with_reducible rfl | with_reducible assumption)) | exact (rfl : AV.idsLt _ _ = true) | exact (rfl : _ = AV.ren _ (.own _)) | exact (rfl : _ = AV.ren _ (.fn _ _)) | exact (rfl : _ = AV.ren _ (.gh _)) | (exact congrArg intV (by assumption)) | (refine congrArg intV ((wr_id (by omega) (by omega)).trans (by omega))) | exact rfl | (simp only [Int.toNat_natCast, Int.toNat_zero, Nat.sub_zero, Nat.zero_add]; first | exact rfl | done) | exact all0 | exact fun h => Bool.noConfusion h | exact fun _ _ _ _ => rfl | omega)
  · have ec := ec (by omega)
    have h1 : ¬ 0 < X i := hb
    rw [if_neg h1] at el
    have el2 : loF m p q X i = loF m p q X (i + 1) := by omega
    refine ⟨i + 1, [], by omega, by omega, ?_⟩
    refine Sub.of ?_ ?_ ?_
    repeat' (first | (refine And.intro ?_ ?_) | exact trivial | exact fun _ _ _ => hsc _ _ | (exact congrArg intV (by first | with_reducible rfl | with_reducible assumption)) | exact (rfl : AV.idsLt _ _ = true) | exact (rfl : _ = AV.ren _ (.own _)) | exact (rfl : _ = AV.ren _ (.fn _ _)) | exact (rfl : _ = AV.ren _ (.gh _)) | (exact congrArg intV (by assumption)) | (refine congrArg intV ((wr_id (by omega) (by omega)).trans (by omega))) | exact rfl | (simp only [Int.toNat_natCast, Int.toNat_zero, Nat.sub_zero, Nat.zero_add]; first | exact rfl | done) | exact all0 | exact fun h => Bool.noConfusion h | exact fun _ _ _ _ => rfl | omega)
  · obtain rfl : i = K := by omega
    refine And.intro (fun _ => ⟨is1_c _ _, is1_c _ _, by omega, rfl, fun _ _ => rfl⟩) ?_
    conv => whnf
    repeat' (first
      | (refine NilG.mk fun bn hbn => ?_; conv => whnf)
      | (refine Both.mk ?_ ?_ <;> conv => whnf)
      | exact trivial
      | (refine Br.mk (fun hb => ?_) (fun hb => ?_) <;> (first | (exfalso; revert hb; decide) | ((try simp only [BL] at hb) <;> (try simp only [DL] at hb) <;> conv => whnf)))
      | (refine And.intro ?_ ?_; (focus (first | exact id | exact rfl | exact trivial | (intro hg; first | exact hg | exact rfl | (simp; done) | (simp at hg ⊢; assumption)) | omega | decide | exact is2_c _ _ _ | exact is1_c _ _ | exact isS_c _ _ | exact isB_c _ _ | exact Nat.le_refl _ | assumption | exact mulLe (by decide) (by omega) | exact mulLe2 (by decide) (by omega) (by omega) | (intros; simp only [BL] at *; omega) | (intros; (try simp only [BL] at *); (try simp only [DL] at *); omega) | (intros; simp only [BL] at *; rw [wr_id (by omega) (by omega)]; omega) | (intros; simp_all; done))); conv => whnf)
      | (refine Or.inr (And.intro rfl ?_); first | (refine congrArg intV ?_) | (refine congrArg boolV ?_) | (refine tupII ?_ ?_) | (refine tupIII ?_ ?_ ?_) | (refine tupU ?_ ?_ ?_ ?_ ?_) | exact rfl))
    rw [hcc, hlo, hhi]
    simp

theorem dispatchUnits_own : ownKnob Try.prog.godebug = none := by kernel_rfl
theorem dispatchUnits_laid : laidOutB Try.prog = true := by kernel_rfl

set_option maxRecDepth 100000 in
theorem dispatchUnits_lifted (os : Os) (started : os.Started) (H : Type) (enc : TypeId × Value → H) :
    ReturnsInHanded {} Try.checked os 9 .any (Rows.dispatchUnitsSpec.pre6 enc Try.prog Try.f9 Rows.dispatchUnitsRow.domain false) (Rows.dispatchUnitsSpec.post enc Try.prog Try.f9 false true false false) := by
  refine returnsInHanded_of_change (C := Try.checked) dispatchUnits_own started (by kernel_rfl) Try.func9
    (ChangeSpec.witness6 (enc := enc) (C := Try.checked) false ⟨#[], #[.slice none 0 0, .int .i64 0], []⟩ 8 (by kernel_rfl) (by kernel_rfl) (by kernel_rfl) (by kernel_rfl)) ?_
  intro W base args ds gs before hval0 hW hcnd _
  have hval : ∀ (j : Nat) t v, Try.f9.params[j]? = some t → args[j]? = some v → Value.okWide Try.prog W .any base t v := hval0
  have hW' : DataW.Whole enc Try.prog Try.f9.params.toList Rows.dispatchUnitsSpec.vars false W args.toList ds gs before := hW
  exact law_post (P := Try.prog) [.sl tyOff, .i .i64] (by kernel_rfl) dispatchUnits_laid (by kernel_rfl) rfl (tb := 4) rfl (by kernel_rfl) (fun ds h => by
    match ds, h with
    | [d1, d2], _ => rfl) (fun x hx => duLaw (fun k => (x.1.2 k).1) (fun k => (x.1.2 k).2.1.1) (fun k i => ((x.1.2 k).2.1.2 i).1) (fun k i => ((x.1.2 k).2.1.2 i).2.1) x.1.1 x.2.1 hx.1.1 (fun k hk => ⟨(hx.1.2 k hk).1, (hx.1.2 k hk).2.1.1⟩)) W args ds gs before hval hW'

theorem dispatchUnits_holds : Rows.DispatchUnitsSaid :=
  OpenClaim.holds_of_wide 9 Try.f9 rfl rfl rfl rfl rfl rfl rfl ⟨rfl, rfl, rfl, rfl, rfl⟩ rfl rfl rfl rfl rfl (by kernel_rfl) Try.func9 (by kernel_rfl)
    (of_decide_eq_true (by kernel_rfl)) (by unfold Func.isWrapper; rw [if_neg (by decide +kernel)]; exact ⟨rfl, rfl⟩)
    (fun os started H enc _ => dispatchUnits_lifted os started H enc)
end Go.Proofs.Ytdakikgebfphmaa
