/-
  The package dispatch: Best.
-/
import Derived.Test.YtdakikgebfphmaaDspU
namespace Go.Proofs.Ytdakikgebfphmaa
open Go.RowKit

def sOlT (g : Nat → (Nat → ByteArray) → (Nat → Nat) → (Nat → Nat → Int) → (Nat → Nat → Int) → Int → AV) : List AV → Sd × AV
  | [.c (.sl 2 n f), .c (.v (.int .i64 T))] => (.p (isO n f), g n (dS f) (oM f) (oP f) (oQ f) T)
  | _ => (.p False, .top)
theorem sOlT_ok {f : FuncId} {g} (h : ∀ s m p q n T, n ≤ maxLen → (∀ k, k < n → (s k).size ≤ maxLen ∧ m k ≤ maxLen) → Fn1 Try.prog f [.c (.sl 2 n (cO s m p q)), intV T] (g n s m p q T)) : ∀ args, (sOlT g args).1.ok → (sOlT g args).2.exact.isSome = true → Fn1 Try.prog f args (sOlT g args).2 := fun args hs _ => by
  unfold sOlT at hs ⊢
  split at hs
  · exact (h _ _ _ _ _ _ hs.2.1 hs.2.2).le (Le.cons (Le1.l (LLe.sl hs.1)) (Le.cons (Le1.refl _) Le.nil))
  · exact hs.elim
def gamQ2 : Gam := fun f => match f with
  | 100 => some (sOlT fun n s m p q T => intV (dckE n s m p q T))
  | _ => none
theorem gamQ2_ok : GOk Try.prog gamQ2 := fun f g h => by
  unfold gamQ2 at h
  split at h
  · injection h with h; subst h; exact sOlT_ok fun s m p q n T h1 h2 => dspChk s m p q n T h1 h2
  · cases h
/-- the blocks, column by column -/
def bC (m : Nat → Nat) (p q : Nat → Nat → Int) (n : Nat) : Nat → Nat → L := colDsp (fun e => own m n e) (bSz m p n) (bSz m q n)
theorem bCmp0 (x y u x' y' u' : Int) (h1 : -1000000 ≤ u ∧ u ≤ 1000000) (h2 : -1000000 ≤ u' ∧ u' ≤ 1000000) : Fn1 Try.prog 102 [.agg [intV x, intV y, intV u], .agg [intV x', intV y', intV u']] (intV (u - u')) := by
  refine fn_of_wpx (O := lex) tab_ok (Γ := fun _ => none) (fun _ _ h => by cases h) mixed Try.func102 (by kernel_rfl) rfl rfl rfl (by simp [Try.ntmps102]) (by kernel_rfl) ?_
  conv => whnf
  repeat' (first
    | (refine NilG.mk fun bn hbn => ?_; conv => whnf)
    | (refine Both.mk ?_ ?_ <;> conv => whnf)
    | exact trivial
    | (refine Br.mk (fun hb => ?_) (fun hb => ?_) <;> (first | (exfalso; revert hb; decide) | ((try simp only [BL] at hb) <;> (try simp only [DL] at hb) <;> conv => whnf)))
    | (refine And.intro ?_ ?_; (focus (first | exact id | exact rfl | exact trivial | (intro hg; first | exact hg | exact rfl | (simp; done) | (simp at hg ⊢; assumption)) | omega | decide | exact is2_c _ _ _ | exact is1_c _ _ | exact isS_c _ _ | exact isB_c _ _ | exact Nat.le_refl _ | assumption | exact mulLe (by decide) (by omega) | exact mulLe2 (by decide) (by omega) (by omega) | (intros; simp only [BL] at *; omega) | (intros; (try simp only [BL] at *); (try simp only [DL] at *); omega) | (intros; simp only [BL] at *; rw [wr_id (by omega) (by omega)]; omega) | (intros; simp_all; done))); conv => whnf)
    | (refine Or.inr (And.intro rfl ?_); first | (refine congrArg intV ?_) | (refine congrArg boolV ?_) | (refine tupII ?_ ?_) | (refine tupIII ?_ ?_ ?_) | (refine tupU ?_ ?_ ?_ ?_ ?_) | exact rfl))
  · exact wr_id (by omega) (by omega)
theorem bQ_le {n : Nat} {s : Nat → ByteArray} {m : Nat → Nat} {p q : Nat → Nat → Int} (h : offsE n s m p q = 0) {e : Nat} (he : e < oN m n) : -1000000 ≤ bSz m q n e ∧ bSz m q n e ≤ 1000000 ∧ 1 ≤ bSz m p n e ∧ bSz m p n e ≤ 100000 := by
  obtain ⟨_, hall⟩ := offsE_zero h
  obtain ⟨o1, o2, o3⟩ := own_spec he
  have := (hall _ o1).2.1.2.1 (e - oN m (own m n e)) (by omega)
  unfold bSz
  omega
theorem bCmp {n : Nat} {s : Nat → ByteArray} {m : Nat → Nat} {p q : Nat → Nat → Int} (h : offsE n s m p q = 0) : CmpDsp 102 (bC m p q n) (bSz m q n) (oN m n) :=
  ⟨fun i j hi hj => ⟨_, bCmp0 _ _ _ _ _ _ ⟨(bQ_le h hi).1, (bQ_le h hi).2.1⟩ ⟨(bQ_le h hj).1, (bQ_le h hj).2.1⟩, by omega⟩⟩
theorem oN_le {n : Nat} {s : Nat → ByteArray} {m : Nat → Nat} {p q : Nat → Nat → Int} (h : offsE n s m p q = 0) : ∀ k, k ≤ n → oN m k ≤ 12 * k
  | 0, _ => Nat.le_refl _
  | k + 1, hk => by
    have := oN_le h k (by omega)
    have := ((offsE_zero h).2 k (by omega)).2.1.1
    simp only [oN]
    omega
theorem blks2_of {n : Nat} {s : Nat → ByteArray} {m : Nat → Nat} {p q : Nat → Nat → Int} {π : Nat → Nat} (h : offsE n s m p q = 0) (hs : Sorted (bSz m q n) π (oN m n)) : Blks2 m p q n π :=
  have hall := (offsE_zero h).2
  ⟨fun k hk j hj => (hall k hk).2.1.2.2.1 j hj, fun k hk j hj => ((hall k hk).2.1.2.1 j hj).1, fun k hk j hj => ((hall k hk).2.1.2.1 j hj).2.2.2, hs⟩
/-- what Best returns: the powers and the cost when there is no error -/
def bestK (n : Nat) (s : Nat → ByteArray) (m : Nat → Nat) (p q : Nat → Nat → Int) (T : Int) (obs : List OB) (v : AV) : Prop :=
  obs = [] ∧ ((dckE n s m p q T ≠ 0 ∧ v = .tup [.c (.v (.slice none 0 0)), intV 0, intV (dckE n s m p q T)]) ∨
    (dckE n s m p q T = 0 ∧ ∃ π, Sorted (bSz m q n) π (oN m n) ∧ v = .tup [.c (.sl 1 n (c1 fun k => bX m p n π T k (oN m n))), intV (S (fun b => bTk m p n π T b * bSz m q n (π b)) (oN m n)), intV 0]))
set_option maxHeartbeats 1000000 in
theorem dspBest (s : Nat → ByteArray) (m : Nat → Nat) (p q : Nat → Nat → Int) (n : Nat) (T : Int) (hn : n ≤ maxLen) (hk : ∀ k, k < n → (s k).size ≤ maxLen ∧ m k ≤ maxLen) :
    Fn Try.prog 49 [.c (.sl 2 n (cO s m p q)), intV T] (bestK n s m p q T) := by
  refine fn_of_wpx (O := lex) tab_ok gamQ2_ok mixed Try.func49 (by kernel_rfl) rfl rfl rfl (by simp [Try.ntmps49]) (by kernel_rfl) ?_
  have hn' : n ≤ 9223372036854775807 := hn
  conv => whnf
  repeat' (first
    | (refine NilG.mk fun bn hbn => ?_; conv => whnf)
    | (refine Both.mk ?_ ?_ <;> conv => whnf)
    | exact trivial
    | (refine Br.mk (fun hb => ?_) (fun hb => ?_) <;> (first | (exfalso; revert hb; decide) | ((try simp only [BL] at hb) <;> (try simp only [DL] at hb) <;> conv => whnf)))
    | (refine And.intro ?_ ?_; (focus (first | exact id | exact rfl | exact trivial | (intro hg; first | exact hg | exact rfl | (simp; done) | (simp at hg ⊢; assumption)) | omega | decide | exact is2_c _ _ _ | exact is1_c _ _ | exact isS_c _ _ | exact isB_c _ _ | exact Nat.le_refl _ | assumption | exact mulLe (by decide) (by omega) | exact mulLe2 (by decide) (by omega) (by omega) | (intros; simp only [BL] at *; omega) | (intros; (try simp only [BL] at *); (try simp only [DL] at *); omega) | (intros; simp only [BL] at *; rw [wr_id (by omega) (by omega)]; omega) | (intros; simp_all; done) | exact isO_c hn hk)); conv => whnf)
    | (refine Or.inr (And.intro rfl ?_); first | (refine congrArg intV ?_) | (refine congrArg boolV ?_) | (refine tupII ?_ ?_) | (refine tupIII ?_ ?_ ?_) | (refine tupU ?_ ?_ ?_ ?_ ?_) | exact rfl))
  · have h0 : ¬ dckE n s m p q T = 0 := hb
    exact .inr ⟨rfl, .inl ⟨h0, rfl⟩⟩
  have h0 : dckE n s m p q T = 0 := hb
  have hE : offsE n s m p q = 0 ∧ 0 ≤ T ∧ T ≤ S (oS m p) n := by
    unfold dckE at h0
    split at h0
    · rename_i hh; exact absurd h0 hh
    · split at h0
      · cases h0
      · split at h0
        · cases h0
        · omega
  obtain ⟨hO, hT0, hT1⟩ := hE
  obtain ⟨hn10, hall⟩ := offsE_zero hO
  have hsc := scDsp (fun e => own m n e) (bSz m p n) (bSz m q n)
  clear hb
  refine LoopG.nil 8 154 3 rfl ?_
  refine sem_loop tab_ok gamQ2_ok mixed (by kernel_rfl) (O := lex) (fun i : Nat => ⟨[(0, .c (.sl 2 n (cO s m p q))), (1, intV T), (8, .own 0), (24, .c (.sl 2 n (cO s m p q))), (25, intV n), (26, intV i)], [rowDsp (oN m i) (bC m p q n) id]⟩) (fun i => i ≤ n) (fun i => n - i) ⟨0, [?_], Nat.zero_le _, ?_⟩ fun i hi => ?_
  rotate_left 1
  · refine Sub.of ?_ ?_ ?_
    repeat' (first | (refine And.intro ?_ ?_) | exact trivial | exact fun _ _ _ => hsc _ _ | (exact congrArg intV (by first | with_reducible rfl | with_reducible assumption)) | exact (rfl : AV.idsLt _ _ = true) | exact (rfl : _ = AV.ren _ (.own _)) | exact (rfl : _ = AV.ren _ (.fn _ _)) | exact (rfl : _ = AV.ren _ (.gh _)) | (exact congrArg intV (by assumption)) | (refine congrArg intV ((wr_id (by omega) (by omega)).trans (by omega))) | exact rfl | (simp only [Int.toNat_natCast, Int.toNat_zero, Nat.sub_zero, Nat.zero_add]; first | exact rfl | done) | exact all0 | exact fun h => Bool.noConfusion h | exact fun _ _ _ _ => rfl | omega)
  conv => whnf
  repeat' (first
    | (refine NilG.mk fun bn hbn => ?_; conv => whnf)
    | (refine Both.mk ?_ ?_ <;> conv => whnf)
    | exact trivial
    | (refine Br.mk (fun hb => ?_) (fun hb => ?_) <;> (first | (exfalso; revert hb; decide) | ((try simp only [BL] at hb) <;> (try simp only [DL] at hb) <;> conv => whnf)))
    | (refine And.intro ?_ ?_; (focus (first | exact id | exact rfl | exact trivial | (intro hg; first | exact hg | exact rfl | (simp; done) | (simp at hg ⊢; assumption)) | omega | decide | exact is2_c _ _ _ | exact is1_c _ _ | exact isS_c _ _ | exact isB_c _ _ | exact Nat.le_refl _ | assumption | exact mulLe (by decide) (by omega) | exact mulLe2 (by decide) (by omega) (by omega) | (intros; simp only [BL] at *; omega) | (intros; (try simp only [BL] at *); (try simp only [DL] at *); omega) | (intros; simp only [BL] at *; rw [wr_id (by omega) (by omega)]; omega) | (intros; simp_all; done))); conv => whnf)
    | (refine Or.inr (And.intro rfl ?_); first | (refine congrArg intV ?_) | (refine congrArg boolV ?_) | (refine tupII ?_ ?_) | (refine tupIII ?_ ?_ ?_) | (refine tupU ?_ ?_ ?_ ?_ ?_) | exact rfl))
  · have hin : i < n := by omega
    have hm12 := (hall i hin).2.1.1
    clear hb
    refine sem_loop tab_ok gamQ2_ok mixed (by kernel_rfl) (O := lex) (fun j : Nat => ⟨[(0, .c (.sl 2 n (cO s m p q))), (1, intV T), (8, .own 0), (9, intV i), (24, .c (.sl 2 n (cO s m p q))), (25, intV n), (26, intV i), (32, .c (.sl 2 (m i) (c2 (p i) (q i)))), (33, intV (m i)), (34, intV j)], [rowDsp (oN m i + j) (bC m p q n) id]⟩) (fun j => j ≤ m i) (fun j => m i - j) ⟨0, [?_], Nat.zero_le _, ?_⟩ fun j hj => ?_
    rotate_left 1
    · refine Sub.of ?_ ?_ ?_
      repeat' (first | (refine And.intro ?_ ?_) | exact trivial | exact fun _ _ _ => hsc _ _ | (exact congrArg intV (by first | with_reducible rfl | with_reducible assumption)) | exact (rfl : AV.idsLt _ _ = true) | exact (rfl : _ = AV.ren _ (.own _)) | exact (rfl : _ = AV.ren _ (.fn _ _)) | exact (rfl : _ = AV.ren _ (.gh _)) | (exact congrArg intV (by assumption)) | (refine congrArg intV ((wr_id (by omega) (by omega)).trans (by omega))) | exact rfl | (simp only [Int.toNat_natCast, Int.toNat_zero, Nat.sub_zero, Nat.zero_add]; first | exact rfl | done) | exact all0 | exact fun h => Bool.noConfusion h | exact fun _ _ _ _ => rfl | omega)
    have hN := oN_le hO i (by omega)
    conv => whnf
    repeat' (first
      | (refine NilG.mk fun bn hbn => ?_; conv => whnf)
      | (refine Both.mk ?_ ?_ <;> conv => whnf)
      | exact trivial
      | (refine Br.mk (fun hb => ?_) (fun hb => ?_) <;> (first | (exfalso; revert hb; decide) | ((try simp only [BL] at hb) <;> (try simp only [DL] at hb) <;> conv => whnf)))
      | (refine And.intro ?_ ?_; (focus (first | exact id | exact rfl | exact trivial | (intro hg; first | exact hg | exact rfl | (simp; done) | (simp at hg ⊢; assumption)) | omega | decide | exact is2_c _ _ _ | exact is1_c _ _ | exact isS_c _ _ | exact isB_c _ _ | exact Nat.le_refl _ | assumption | exact mulLe (by decide) (by omega) | exact mulLe2 (by decide) (by omega) (by omega) | (intros; simp only [BL] at *; omega) | (intros; (try simp only [BL] at *); (try simp only [DL] at *); omega) | (intros; simp only [BL] at *; rw [wr_id (by omega) (by omega)]; omega) | (intros; simp_all; done))); conv => whnf)
      | (refine Or.inr (And.intro rfl ?_); first | (refine congrArg intV ?_) | (refine congrArg boolV ?_) | (refine tupII ?_ ?_) | (refine tupIII ?_ ?_ ?_) | (refine tupU ?_ ?_ ?_ ?_ ?_) | exact rfl))
    · have hjm : j < m i := by omega
      have b0 := own_at (m := m) hjm hin
      have b1 := bSz_at (p := p) hin hjm
      have b2 := bSz_at (p := q) hin hjm
      refine ⟨j + 1, [?_], by omega, by omega, ?_⟩
      rotate_left 1
      refine Sub.of ?_ ?_ ?_
      repeat' (first | (refine And.intro ?_ ?_) | exact trivial | exact fun _ _ _ => hsc _ _ | (exact congrArg intV (by first | with_reducible rfl | with_reducible assumption)) | exact (rfl : AV.idsLt _ _ = true) | exact (rfl : _ = AV.ren _ (.own _)) | exact (rfl : _ = AV.ren _ (.fn _ _)) | exact (rfl : _ = AV.ren _ (.gh _)) | (exact congrArg intV (by assumption)) | (refine congrArg intV ((wr_id (by omega) (by omega)).trans (by omega))) | exact rfl | (simp only [Int.toNat_natCast, Int.toNat_zero, Nat.sub_zero, Nat.zero_add]; first | exact rfl | done) | exact all0 | exact fun h => Bool.noConfusion h | exact fun _ _ _ _ => rfl | omega)
      intro aq haq bq hbq
      by_cases hltq : aq < oN m i + j
      · exact if_pos hltq
      · obtain rfl : aq = oN m i + j := by omega
        refine (if_neg hltq).trans ?_
        rw [Nat.sub_self]
        revert bq hbq
        refine all3 (congrArg (fun z : Nat => iL (z : Int)) b0.symm) (congrArg iL b1.symm) (congrArg iL b2.symm)
    · refine ⟨i + 1, [?_], by omega, by omega, ?_⟩
      rotate_left 1
      refine Sub.of ?_ ?_ ?_
      repeat' (first | (refine And.intro ?_ ?_) | exact trivial | exact fun _ _ _ => hsc _ _ | (exact congrArg intV (by first | with_reducible rfl | with_reducible assumption)) | exact (rfl : AV.idsLt _ _ = true) | exact (rfl : _ = AV.ren _ (.own _)) | exact (rfl : _ = AV.ren _ (.fn _ _)) | exact (rfl : _ = AV.ren _ (.gh _)) | (exact congrArg intV (by assumption)) | (refine congrArg intV ((wr_id (by omega) (by omega)).trans (by omega))) | exact rfl | (simp only [Int.toNat_natCast, Int.toNat_zero, Nat.sub_zero, Nat.zero_add]; first | exact rfl | done) | exact all0 | exact fun h => Bool.noConfusion h | exact fun _ _ _ _ => rfl | omega)
      show oN m i + j = oN m i + m i
      omega
  · have hin : i = n := by omega
    subst hin
    have hN := oN_le hO i (Nat.le_refl _)
    refine CallG.wr [0] rfl (FnM.mono (sortDsp (bCmp hO) (by omega)) ?_)
    rintro obs r ⟨π, hq, rfl, rfl⟩
    conv => whnf
    repeat' (first
      | (refine NilG.mk fun bn hbn => ?_; conv => whnf)
      | (refine Both.mk ?_ ?_ <;> conv => whnf)
      | exact trivial
      | (refine Br.mk (fun hb => ?_) (fun hb => ?_) <;> (first | (exfalso; revert hb; decide) | ((try simp only [BL] at hb) <;> (try simp only [DL] at hb) <;> conv => whnf)))
      | (refine And.intro ?_ ?_; (focus (first | exact id | exact rfl | exact trivial | (intro hg; first | exact hg | exact rfl | (simp; done) | (simp at hg ⊢; assumption)) | omega | decide | exact is2_c _ _ _ | exact is1_c _ _ | exact isS_c _ _ | exact isB_c _ _ | exact Nat.le_refl _ | assumption | exact mulLe (by decide) (by omega) | exact mulLe2 (by decide) (by omega) (by omega) | (intros; simp only [BL] at *; omega) | (intros; (try simp only [BL] at *); (try simp only [DL] at *); omega) | (intros; simp only [BL] at *; rw [wr_id (by omega) (by omega)]; omega) | (intros; simp_all; done))); conv => whnf)
      | (refine Or.inr (And.intro rfl ?_); first | (refine congrArg intV ?_) | (refine congrArg boolV ?_) | (refine tupII ?_ ?_) | (refine tupIII ?_ ?_ ?_) | (refine tupU ?_ ?_ ?_ ?_ ?_) | exact rfl))
    have hB2 := blks2_of hO hq
    have hcz : ∀ z, z ≤ oN m i → 0 ≤ bCum m p i π z := fun z hz => hB2.cum_mono (a := 0) (b := z) (Nat.zero_le _) hz
    have hMt : ∀ z, z < oN m i → 0 ≤ bTk m p i π T z ∧ bTk m p i π T z ≤ 100000 := fun z hz => by
      have h1 := bQ_le hO (hq.lt hz)
      have h2 := hcz z (by omega)
      have h3 : bCum m p i π (z + 1) = bCum m p i π z + bSz m p i (π z) := rfl
      unfold bTk
      omega
    have hM : ∀ z, z < oN m i → -100000000000 ≤ bTk m p i π T z * bSz m q i (π z) ∧ bTk m p i π T z * bSz m q i (π z) ≤ 100000000000 := fun z hz => by
      have h1 := bQ_le hO (hq.lt hz)
      have h2 := hcz z (by omega)
      have h3 : bCum m p i π (z + 1) = bCum m p i π z + bSz m p i (π z) := rfl
      have h4 : 0 ≤ bTk m p i π T z ∧ bTk m p i π T z ≤ 100000 := by unfold bTk; omega
      have := mulB h4.1 h4.2 h1.1 h1.2.1 (by decide)
      omega
    have e0 : T = T - min T (bCum m p i π 0) := by
      show T = T - min T 0
      omega
    refine sem_loop tab_ok gamQ2_ok mixed (by kernel_rfl) (O := lex) (fun b : Nat => ⟨[(1, intV (T - min T (bCum m p i π b))), (13, .own 0), (14, intV (S (fun b => bTk m p i π T b * bSz m q i (π b)) b)), (54, .own 1), (55, intV (oN m i : Nat)), (56, intV b)], [.row 3 1 i false (c1 fun k => bX m p i π T k b), rowDsp (oN m i) (bC m p q i) π]⟩) (fun b => b ≤ oN m i) (fun b => oN m i - b) ⟨0, [?_, ?_], Nat.zero_le _, ?_⟩ fun b hb0 => ?_
    rotate_left 2
    · refine Sub.of ?_ ?_ ?_
      repeat' (first | (refine And.intro ?_ ?_) | exact trivial | exact fun _ _ _ => hsc _ _ | (exact congrArg intV (by first | with_reducible rfl | with_reducible assumption)) | exact (rfl : AV.idsLt _ _ = true) | exact (rfl : _ = AV.ren _ (.own _)) | exact (rfl : _ = AV.ren _ (.fn _ _)) | exact (rfl : _ = AV.ren _ (.gh _)) | (exact congrArg intV (by assumption)) | (refine congrArg intV ((wr_id (by omega) (by omega)).trans (by omega))) | exact rfl | (simp only [Int.toNat_natCast, Int.toNat_zero, Nat.sub_zero, Nat.zero_add]; first | exact rfl | done) | exact all0 | exact fun h => Bool.noConfusion h | exact fun _ _ _ _ => rfl | omega)
      · intro a _ c hc
        have hc : c < 1 := hc
        obtain rfl : c = 0 := by omega
        rfl
    clear e0
    have hbN := fun h : b < oN m i => hq.lt h
    have hown := fun h : b < oN m i => own_spec (hq.lt h)
    conv => whnf
    repeat' (first
      | (refine NilG.mk fun bn hbn => ?_; conv => whnf)
      | (refine Both.mk ?_ ?_ <;> conv => whnf)
      | exact trivial
      | (refine Br.mk (fun hb => ?_) (fun hb => ?_) <;> (first | (exfalso; revert hb; decide) | ((try simp only [BL] at hb) <;> (try simp only [DL] at hb) <;> conv => whnf)))
      | (refine And.intro ?_ ?_; (focus (first | exact id | exact rfl | exact trivial | (intro hg; first | exact hg | exact rfl | (simp; done) | (simp at hg ⊢; assumption)) | omega | decide | exact is2_c _ _ _ | exact is1_c _ _ | exact isS_c _ _ | exact isB_c _ _ | exact Nat.le_refl _ | assumption | exact mulLe (by decide) (by omega) | exact mulLe2 (by decide) (by omega) (by omega) | (intros; simp only [BL] at *; omega) | (intros; (try simp only [BL] at *); (try simp only [DL] at *); omega) | (intros; simp only [BL] at *; rw [wr_id (by omega) (by omega)]; omega) | (intros; simp_all; done))); conv => whnf)
      | (refine Or.inr (And.intro rfl ?_); first | (refine congrArg intV ?_) | (refine congrArg boolV ?_) | (refine tupII ?_ ?_) | (refine tupIII ?_ ?_ ?_) | (refine tupU ?_ ?_ ?_ ?_ ?_) | exact rfl))
    · have hbl : b < oN m i := by omega
      clear hb
      have ho := hown hbl
      refine And.intro ⟨rfl, by rw [Int.toNat_natCast]; exact hbl, by decide⟩ ?_
      have hqb := bQ_le hO (hq.lt hbl)
      have hc0 : 0 ≤ bCum m p i π b := by
        have := hB2.cum_mono (a := 0) (b := b) (Nat.zero_le _) hb0
        have e : bCum m p i π 0 = 0 := rfl
        omega
      have hc1 : bCum m p i π (b + 1) = bCum m p i π b + bSz m p i (π b) := rfl
      have hS6 := (oS_le hO (Nat.le_refl i)).2
      have htk : min (T - min T (bCum m p i π b)) (bSz m p i (π (b : Int).toNat)) = bTk m p i π T b := by
        show min (T - min T (bCum m p i π b)) (bSz m p i (π b)) = _
        unfold bTk
        omega
      have htb : 0 ≤ bTk m p i π T b ∧ bTk m p i π T b ≤ 100000 := by
        rw [← htk]
        show 0 ≤ min (T - min T (bCum m p i π b)) (bSz m p i (π b)) ∧ min (T - min T (bCum m p i π b)) (bSz m p i (π b)) ≤ 100000
        omega
      have hl1 : IntKind.i64.wrap (T - min T (bCum m p i π b) - min (T - min T (bCum m p i π b)) (bSz m p i (π (b : Int).toNat))) = T - min T (bCum m p i π (b + 1)) := by
        rw [htk, wr_id (by omega) (by omega)]
        unfold bTk
        omega
      have hl2 : IntKind.i64.wrap (S (fun b => bTk m p i π T b * bSz m q i (π b)) b + IntKind.i64.wrap (min (T - min T (bCum m p i π b)) (bSz m p i (π (b : Int).toNat)) * bSz m q i (π (b : Int).toNat))) = S (fun b => bTk m p i π T b * bSz m q i (π b)) (b + 1) := by
        have h1 := hM b hbl
        have h2 := S_le (p := fun b => bTk m p i π T b * bSz m q i (π b)) (k := b) (a := -100000000000) (b := 100000000000) fun z hz => hM z (by omega)
        have hN2 := oN_le hO i (Nat.le_refl _)
        rw [htk, Int.toNat_natCast, wr_id (x := bTk m p i π T b * bSz m q i (π b)) (by omega) (by omega)]
        exact wr_id (by omega) (by omega)
      conv => whnf
      repeat' (first
        | (refine NilG.mk fun bn hbn => ?_; conv => whnf)
        | (refine Both.mk ?_ ?_ <;> conv => whnf)
        | exact trivial
        | (refine Br.mk (fun hb => ?_) (fun hb => ?_) <;> (first | (exfalso; revert hb; decide) | ((try simp only [BL] at hb) <;> (try simp only [DL] at hb) <;> conv => whnf)))
        | (refine And.intro ?_ ?_; (focus (first | exact id | exact rfl | exact trivial | (intro hg; first | exact hg | exact rfl | (simp; done) | (simp at hg ⊢; assumption)) | omega | decide | exact is2_c _ _ _ | exact is1_c _ _ | exact isS_c _ _ | exact isB_c _ _ | exact Nat.le_refl _ | assumption | exact mulLe (by decide) (by omega) | exact mulLe2 (by decide) (by omega) (by omega) | (intros; simp only [BL] at *; omega) | (intros; (try simp only [BL] at *); (try simp only [DL] at *); omega) | (intros; simp only [BL] at *; rw [wr_id (by omega) (by omega)]; omega) | (intros; simp_all; done))); conv => whnf)
        | (refine Or.inr (And.intro rfl ?_); first | (refine congrArg intV ?_) | (refine congrArg boolV ?_) | (refine tupII ?_ ?_) | (refine tupIII ?_ ?_ ?_) | (refine tupU ?_ ?_ ?_ ?_ ?_) | exact rfl))
      · refine ⟨b + 1, [?_, ?_], by omega, by omega, ?_⟩
        rotate_left 2
        refine Sub.of ?_ ?_ ?_
        repeat' (first | (refine And.intro ?_ ?_) | exact trivial | exact fun _ _ _ => hsc _ _ | (exact congrArg intV (by first | with_reducible rfl | with_reducible assumption)) | exact (rfl : AV.idsLt _ _ = true) | exact (rfl : _ = AV.ren _ (.own _)) | exact (rfl : _ = AV.ren _ (.fn _ _)) | exact (rfl : _ = AV.ren _ (.gh _)) | (exact congrArg intV (by assumption)) | (refine congrArg intV ((wr_id (by omega) (by omega)).trans (by omega))) | exact rfl | (simp only [Int.toNat_natCast, Int.toNat_zero, Nat.sub_zero, Nat.zero_add]; first | exact rfl | done) | exact all0 | exact fun h => Bool.noConfusion h | exact fun _ _ _ _ => rfl | omega)
        intro a ha c hc9
        obtain rfl : c = 0 := by omega
        have hN2 := oN_le hO i (Nat.le_refl _)
        have hbx := S_le (p := fun z => if own m i (π z) = own m i (π b) then bTk m p i π T z else 0) (k := b) (a := 0) (b := 100000) fun z hz => by
          have := hMt z (by omega)
          split <;> omega
        have hbx : 0 * (b : Int) ≤ bX m p i π T (own m i (π b)) b ∧ bX m p i π T (own m i (π b)) b ≤ 100000 * b := hbx
        show (if a = own m i (π b) then iL (IntKind.i64.wrap (bX m p i π T (own m i (π b)) b + min (T - min T (bCum m p i π b)) (bSz m p i (π (b : Int).toNat)))) else iL (bX m p i π T a b)) = iL (bX m p i π T a (b + 1))
        have e : bX m p i π T a (b + 1) = bX m p i π T a b + (if own m i (π b) = a then bTk m p i π T b else 0) := rfl
        rw [htk, e, wr_id (by omega) (by omega)]
        by_cases h : a = own m i (π b)
        · rw [if_pos h, if_pos h.symm, h]
        · rw [if_neg h, if_neg (fun e => h e.symm), Int.add_zero]
    · have hbe : b = oN m i := by omega
      subst hbe
      exact .inr ⟨rfl, .inr ⟨h0, π, hq, rfl⟩⟩
end Go.Proofs.Ytdakikgebfphmaa
