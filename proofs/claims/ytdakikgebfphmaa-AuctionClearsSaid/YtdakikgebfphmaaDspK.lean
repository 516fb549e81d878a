/-
  dispatch: the results of Best and Price in one form; the example of the laws.
-/
import Derived.Test.YtdakikgebfphmaaDspM
import Derived.Test.YtdakikgebfphmaaOffTwo
namespace Go.Proofs.Ytdakikgebfphmaa
open Go.RowKit

theorem uSame (n m : Nat) (x y : Nat → Int) (h : n ≤ 9000000 ∧ m = n ∧ ∀ i, i < n → x i = y i) : Fn1 Try.prog 34 [.c (.sl 1 n (c1 x)), .c (.sl 1 m (c1 y))] (boolV true) := by
  refine fn_of_wpx (O := lex) tab_ok gamZ_ok mixed Try.func34 (by kernel_rfl) rfl rfl rfl (by simp [Try.ntmps34]) (by kernel_rfl) ?_
  obtain ⟨hn, rfl, he⟩ := h
  conv => whnf
  repeat' (first
    | (refine NilG.mk fun bn hbn => ?_; conv => whnf)
    | (refine Both.mk ?_ ?_ <;> conv => whnf)
    | exact trivial
    | (refine Br.mk (fun hb => ?_) (fun hb => ?_) <;> (first | (exfalso; revert hb; decide) | ((try simp only [BL] at hb) <;> (try simp only [DL] at hb) <;> conv => whnf)))
    | (refine And.intro ?_ ?_; (focus (first | exact id | exact rfl | exact trivial | (intro hg; first | exact hg | exact rfl | (simp; done) | (simp at hg ⊢; assumption)) | omega | decide | exact is2_c _ _ _ | exact is1_c _ _ | exact isS_c _ _ | exact isB_c _ _ | exact Nat.le_refl _ | assumption | exact mulLe (by decide) (by omega) | exact mulLe2 (by decide) (by omega) (by omega) | (intros; simp only [BL] at *; omega) | (intros; (try simp only [BL] at *); (try simp only [DL] at *); omega) | (intros; simp only [BL] at *; rw [wr_id (by omega) (by omega)]; omega) | (intro h1 h2; exact Bool.and_eq_true_iff.2 ⟨h1, h2⟩) | (intros; simp_all; done))); conv => whnf)
    | (refine Or.inr (And.intro rfl ?_); first | (refine congrArg intV ?_) | (refine congrArg boolV ?_) | (refine tupII ?_ ?_) | (refine tupIII ?_ ?_ ?_) | (refine tupU ?_ ?_ ?_ ?_ ?_) | exact rfl))
  · exact absurd trivial hb
  refine sem_loop tab_ok gamZ_ok mixed (by kernel_rfl) (O := lex) (fun i : Nat => ⟨[(13, intV i), (12, intV m), (0, .c (.sl 1 m (c1 x))), (1, .c (.sl 1 m (c1 y)))], []⟩) (fun i => i ≤ m) (fun i => m - i) ⟨0, [], Nat.zero_le _, ?_⟩ fun i hi => ?_
  · refine Sub.of ?_ ?_ ?_
    repeat' (first | (refine And.intro ?_ ?_) | exact trivial | exact fun _ _ _ => hsc _ _ | (exact congrArg intV (by first | with_reducible rfl | with_reducible assumption)) | exact (rfl : AV.idsLt _ _ = true) | exact (rfl : _ = AV.ren _ (.own _)) | exact (rfl : _ = AV.ren _ (.fn _ _)) | exact (rfl : _ = AV.ren _ (.gh _)) | (exact congrArg intV (by assumption)) | (refine congrArg intV ((wr_id (by omega) (by omega)).trans (by omega))) | exact rfl | (simp only [Int.toNat_natCast, Int.toNat_zero, Nat.sub_zero, Nat.zero_add]; first | exact rfl | done) | exact all0 | exact fun h => Bool.noConfusion h | exact fun _ _ _ _ => rfl | omega)
  conv => whnf
  repeat' (first
    | (refine NilG.mk fun bn hbn => ?_; conv => whnf)
    | (refine Both.mk ?_ ?_ <;> conv => whnf)
    | exact trivial
    | (refine Br.mk (fun hb => ?_) (fun hb => ?_) <;> (first | (exfalso; revert hb; decide) | ((try simp only [BL] at hb) <;> (try simp only [DL] at hb) <;> conv => whnf)))
    | (refine And.intro ?_ ?_; (focus (first | exact id | exact rfl | exact trivial | (intro hg; first | exact hg | exact rfl | (simp; done) | (simp at hg ⊢; assumption)) | omega | decide | exact is2_c _ _ _ | exact is1_c _ _ | exact isS_c _ _ | exact isB_c _ _ | exact Nat.le_refl _ | assumption | exact mulLe (by decide) (by omega) | exact mulLe2 (by decide) (by omega) (by omega) | (intros; simp only [BL] at *; omega) | (intros; (try simp only [BL] at *); (try simp only [DL] at *); omega) | (intros; simp only [BL] at *; rw [wr_id (by omega) (by omega)]; omega) | (intro h1 h2; exact Bool.and_eq_true_iff.2 ⟨h1, h2⟩) | (intros; simp_all; done))); conv => whnf)
    | (refine Or.inr (And.intro rfl ?_); first | (refine congrArg intV ?_) | (refine congrArg boolV ?_) | (refine tupII ?_ ?_) | (refine tupIII ?_ ?_ ?_) | (refine tupU ?_ ?_ ?_ ?_ ?_) | exact rfl))
  · exact absurd (he i (by omega)) hb
  · refine ⟨i + 1, [], by omega, by omega, ?_⟩
    refine Sub.of ?_ ?_ ?_
    repeat' (first | (refine And.intro ?_ ?_) | exact trivial | exact fun _ _ _ => hsc _ _ | (exact congrArg intV (by first | with_reducible rfl | with_reducible assumption)) | exact (rfl : AV.idsLt _ _ = true) | exact (rfl : _ = AV.ren _ (.own _)) | exact (rfl : _ = AV.ren _ (.fn _ _)) | exact (rfl : _ = AV.ren _ (.gh _)) | (exact congrArg intV (by assumption)) | (refine congrArg intV ((wr_id (by omega) (by omega)).trans (by omega))) | exact rfl | (simp only [Int.toNat_natCast, Int.toNat_zero, Nat.sub_zero, Nat.zero_add]; first | exact rfl | done) | exact all0 | exact fun h => Bool.noConfusion h | exact fun _ _ _ _ => rfl | omega)
  · rfl
def sUI : List AV → Sd × AV
  | [.c (.sl 1 n f), .c (.sl 1 m g)] => (.p (is1 n f ∧ is1 m g ∧ n ≤ 9000000 ∧ m = n ∧ ∀ i, i < n → d0 f i = d0 g i), boolV true)
  | _ => (.p False, .top)
theorem uTup {bs' bs : List AV} (h : Le bs' bs) : Le1 (.tup bs') (.tup bs) := fun σ I w v hd => by
  simp only [Den] at hd ⊢
  obtain ⟨us, e, h1⟩ := hd
  exact ⟨us, e, h _ _ _ _ h1⟩
theorem uNil {sz : Nat} {f : Nat → Nat → L} : Le1 (.c (.v (.slice none 0 0))) (.c (.sl sz 0 f)) := fun σ I w v hd => by
  simp only [Den, L.rd] at hd ⊢
  obtain ⟨rfl, _⟩ := hd
  exact ⟨none, 0, rfl, Nat.le_refl _, Nat.zero_le _, fun h => absurd h (Nat.lt_irrefl 0)⟩
/-- the results of Best, of Price, in one form -/
def bestG (n : Nat) (s : Nat → ByteArray) (m : Nat → Nat) (p q : Nat → Nat → Int) (T : Int) (obs : List OB) (v : AV) : Prop :=
  obs = [] ∧ ∃ K g c, v = .tup [.c (.sl 1 K (c1 g)), intV c, intV (dckE n s m p q T)] ∧ (dckE n s m p q T ≠ 0 → K = 0 ∧ c = 0) ∧
    (dckE n s m p q T = 0 → K = n ∧ ∃ π, Sorted (bSz m q n) π (oN m n) ∧ (g = fun k => bX m p n π T k (oN m n)) ∧ c = S (fun b => bTk m p n π T b * bSz m q n (π b)) (oN m n))
def priceG (n : Nat) (s : Nat → ByteArray) (m : Nat → Nat) (p q : Nat → Nat → Int) (T : Int) (obs : List OB) (v : AV) : Prop :=
  obs = [] ∧ ∃ lo hi, v = .tup [intV lo, intV hi, intV (dckE n s m p q T)] ∧ (dckE n s m p q T ≠ 0 → lo = 0 ∧ hi = 0) ∧
    (dckE n s m p q T = 0 → ∃ π, Sorted (bSz m q n) π (oN m n) ∧ lo = loF m p q (fun k => bX m p n π T k (oN m n)) n ∧ hi = upF m p q (fun k => bX m p n π T k (oN m n)) n)
theorem bestR (s : Nat → ByteArray) (m : Nat → Nat) (p q : Nat → Nat → Int) (n : Nat) (T : Int) (hn : n ≤ maxLen) (hk : ∀ k, k < n → (s k).size ≤ maxLen ∧ m k ≤ maxLen) :
    Fn Try.prog 49 [.c (.sl 2 n (cO s m p q)), intV T] (bestG n s m p q T) :=
  (dspBest s m p q n T hn hk).res fun obs r ⟨h1, h2⟩ => by
    rcases h2 with ⟨h2, rfl⟩ | ⟨h2, π, hq, rfl⟩
    · exact ⟨_, ⟨h1, 0, fun _ => 0, 0, rfl, fun _ => ⟨rfl, rfl⟩, fun h => absurd h h2⟩, uTup (Le.cons uNil (Le.cons (Le1.refl _) (Le.cons (Le1.refl _) Le.nil)))⟩
    · exact ⟨_, ⟨h1, n, _, _, rfl, fun h => absurd h2 h, fun _ => ⟨rfl, π, hq, rfl, rfl⟩⟩, by rw [h2]; exact Le1.refl _⟩
theorem priceR (s : Nat → ByteArray) (m : Nat → Nat) (p q : Nat → Nat → Int) (n : Nat) (T : Int) (hn : n ≤ maxLen) (hk : ∀ k, k < n → (s k).size ≤ maxLen ∧ m k ≤ maxLen) :
    Fn Try.prog 50 [.c (.sl 2 n (cO s m p q)), intV T] (priceG n s m p q T) :=
  (dspPrice s m p q n T hn hk).res fun obs r ⟨h1, h2⟩ => by
    rcases h2 with ⟨h2, rfl⟩ | ⟨h2, π, hq, rfl⟩
    · exact ⟨_, ⟨h1, 0, 0, rfl, fun _ => ⟨rfl, rfl⟩, fun h => absurd h h2⟩, Le1.refl _⟩
    · exact ⟨_, ⟨h1, _, _, rfl, fun h => absurd h2 h, fun _ => ⟨π, hq, rfl, rfl⟩⟩, by rw [h2]; exact Le1.refl _⟩

/-- the example: two offers of 10 at 5 and 10 at 8 -/
def xS (a b : ByteArray) : Nat → ByteArray := fun k => if k = 0 then a else b
def xM : Nat → Nat := fun _ => 2
def xP : Nat → Nat → Int := fun _ => twoP
def xQ : Nat → Nat → Int := fun _ => twoQ
def xPi : Nat → Nat := fun k => id (inI 1 2 k)
theorem xSorted : Sorted (bSz xM xQ 2) xPi (oN xM 2) := by
  refine ⟨fun i j hi hij hj => ?_, rea_in id (by decide) (by decide) (by decide)⟩
  have h4 : oN xM 2 = 4 := rfl
  rw [h4] at hj
  have key : ∀ i, i < 4 → ∀ j, j < 4 → i < j → bSz xM xQ 2 (xPi i) < bSz xM xQ 2 (xPi j) ∨ bSz xM xQ 2 (xPi i) = bSz xM xQ 2 (xPi j) ∧ xPi i < xPi j := by decide
  exact key i (by omega) j hj hij
theorem xUniq {π : Nat → Nat} (h : Sorted (bSz xM xQ 2) π (oN xM 2)) : (∀ k, k < 2 → bX xM xP 2 π 22 k (oN xM 2) = [12, 10].getD k 0) ∧ S (fun b => bTk xM xP 2 π 22 b * bSz xM xQ 2 (π b)) (oN xM 2) = 116 := by
  refine ⟨fun k hk => ?_, ?_⟩
  · rw [bX_uniq h xSorted]
    match k, hk with
    | 0, _ => decide
    | 1, _ => decide
  · have e : S (fun b => bTk xM xP 2 π 22 b * bSz xM xQ 2 (π b)) (oN xM 2) = S (fun b => bTk xM xP 2 xPi 22 b * bSz xM xQ 2 (xPi b)) (oN xM 2) := S_congr fun b hb => by
      unfold bTk
      rw [h.uniq xSorted hb, bCum_uniq h xSorted (Nat.le_of_lt hb), bCum_uniq h xSorted hb]
    rw [e]
    decide

theorem xOffs : offsE 2 (xS ⟨#[65]⟩ ⟨#[66]⟩) xM xP xQ = 0 := by
  have h0 : offE (xS ⟨#[65]⟩ ⟨#[66]⟩ 0) (xM 0) (xP 0) (xQ 0) = 0 := by decide
  have h1 : offE (xS ⟨#[65]⟩ ⟨#[66]⟩ 1) (xM 1) (xP 1) (xQ 1) = 0 := by decide
  have e0 : dupB (xS ⟨#[65]⟩ ⟨#[66]⟩) (xS ⟨#[65]⟩ ⟨#[66]⟩ 0) 0 = false := dup_false fun k hk => absurd hk (Nat.not_lt_zero _)
  have e1 : dupB (xS ⟨#[65]⟩ ⟨#[66]⟩) (xS ⟨#[65]⟩ ⟨#[66]⟩ 1) 1 = false := dup_false fun k hk => by
    obtain rfl : k = 0 := by omega
    unfold sameN xS
    simp [ByteArray.toList, ByteArray.toList.loop, ByteArray.size, ByteArray.get!]
  unfold offsE
  rw [if_neg (by decide)]
  simp [fst, lsE, h0, h1, e0, e1]
theorem xDck : dckE 2 (xS ⟨#[65]⟩ ⟨#[66]⟩) xM xP xQ 22 = 0 := by
  unfold dckE
  rw [if_neg (fun h => h xOffs), if_neg (by decide), if_neg (by decide)]
end Go.Proofs.Ytdakikgebfphmaa
