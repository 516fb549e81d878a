/-
  The package welfare: Waste, Move.
-/
import Derived.Test.YtdakikgebfphmaaDspN
namespace Go.Proofs.Ytdakikgebfphmaa
open Go.RowKit

/-- a list of offers and a list of powers -/
def sWx (P : Nat → (Nat → ByteArray) → (Nat → Nat) → (Nat → Nat → Int) → (Nat → Nat → Int) → Nat → (Nat → Int) → Prop) (g : Nat → (Nat → ByteArray) → (Nat → Nat) → (Nat → Nat → Int) → (Nat → Nat → Int) → Nat → (Nat → Int) → AV) : List AV → Sd × AV
  | [.c (.sl 2 n f), .c (.sl 1 k x)] => (.p (isO n f ∧ is1 k x ∧ P n (dS f) (oM f) (oP f) (oQ f) k (d0 x)), g n (dS f) (oM f) (oP f) (oQ f) k (d0 x))
  | _ => (.p False, .top)
theorem sWx_ok {f : FuncId} {P} {g} (h : ∀ s m p q n k x, n ≤ maxLen → (∀ k, k < n → (s k).size ≤ maxLen ∧ m k ≤ maxLen) → P n s m p q k x → Fn1 Try.prog f [.c (.sl 2 n (cO s m p q)), .c (.sl 1 k (c1 x))] (g n s m p q k x)) :
    ∀ args, (sWx P g args).1.ok → (sWx P g args).2.exact.isSome = true → Fn1 Try.prog f args (sWx P g args).2 := fun args hs _ => by
  unfold sWx at hs ⊢
  split at hs
  · exact (h _ _ _ _ _ _ _ hs.1.2.1 hs.1.2.2 hs.2.2).le (Le.cons (Le1.l (LLe.sl hs.1.1)) (Le.cons (Le1.sl hs.2.1) Le.nil))
  · exact hs.elim
def gamW1 : Gam := fun f => match f with
  | 23 => some (sWx (fun _ _ _ _ _ k _ => k ≤ maxLen) fun n s m p q k x => dcV n k s m p q x)
  | 76 => some (sO (fun _ n p q => okOff n p q) fun _ n p _ => intV (S p n))
  | 103 => some (sOi (fun s n _ _ _ => s.size ≤ maxLen ∧ n ≤ maxLen) fun s n p q x => .tup [intV (if offXE s n p q x = 0 then (if 0 < x then U p q n (x - 1) else -2000000) else 0), intV (if offXE s n p q x = 0 then U p q n x else 0), intV (offXE s n p q x)])
  | _ => none
theorem gamW1_ok : GOk Try.prog gamW1 := fun f g h => by
  unfold gamW1 at h
  split at h
  · injection h with h; subst h; exact sWx_ok fun s m p q n k x h1 h2 h3 => dspCost s m p q n k x h1 h2 h3
  · injection h with h; subst h; exact sO_ok offSum
  · injection h with h; subst h; exact sOi_ok fun s n p q x hp => offMarginal s n p q x hp.1 hp.2
  · cases h
/-- the valid list and its powers -/
theorem dx_zero {n nx : Nat} {s : Nat → ByteArray} {m : Nat → Nat} {p q : Nat → Nat → Int} {x : Nat → Int} (h : dxE n nx s m p q x = 0) : offsE n s m p q = 0 ∧ nx = n ∧ (∀ k, k < n → 0 ≤ x k ∧ x k ≤ S (p k) (m k)) ∧ 0 ≤ S x n ∧ S x n ≤ S (oS m p) n ∧ S (oS m p) n ≤ 1000000 := by
  unfold dxE at h
  split at h
  · rename_i hh; exact absurd h hh
  · rename_i h0
    have h0 : offsE n s m p q = 0 := by simpa using h0
    split at h
    · cases h
    · rename_i h1
      have hx := fun k hk => pwE_zero (fst_zero h k hk)
      have hS : ∀ k, k ≤ n → 0 ≤ S x k ∧ S x k ≤ S (oS m p) k := fun k => by
        induction k with
        | zero => intro _; exact ⟨Int.le_refl _, Int.le_refl _⟩
        | succ k ih =>
          intro hk
          have := ih (by omega)
          have := hx k (by omega)
          simp only [S, oS] at *
          omega
      exact ⟨h0, by omega, hx, (hS n (Nat.le_refl _)).1, (hS n (Nat.le_refl _)).2, (oS_le h0 (Nat.le_refl _)).2⟩
theorem dck_dx {n nx : Nat} {s : Nat → ByteArray} {m : Nat → Nat} {p q : Nat → Nat → Int} {x : Nat → Int} (h : dxE n nx s m p q x = 0) : dckE n s m p q (S x n) = 0 := by
  obtain ⟨h0, h1, h2, h3, h4, h5⟩ := dx_zero h
  unfold dckE
  rw [if_neg (fun h => h h0), if_neg (by omega), if_neg (by omega)]
def wasteG (n nx : Nat) (s : Nat → ByteArray) (m : Nat → Nat) (p q : Nat → Nat → Int) (x : Nat → Int) (obs : List OB) (v : AV) : Prop :=
  obs = [] ∧ ∃ c, v = .tup [intV c, intV (dxE n nx s m p q x)] ∧ (dxE n nx s m p q x ≠ 0 → c = 0) ∧
    (dxE n nx s m p q x = 0 → ∃ π, Sorted (bSz m q n) π (oN m n) ∧ c = S (cK m p q x) n - S (fun b => bTk m p n π (S x n) b * bSz m q n (π b)) (oN m n))
/-- the cost of what Best takes: bounds -/
theorem bCost_b {n : Nat} {s : Nat → ByteArray} {m : Nat → Nat} {p q : Nat → Nat → Int} {T : Int} {π : Nat → Nat} (h : dckE n s m p q T = 0) (hq : Sorted (bSz m q n) π (oN m n)) : ∃ B, bAt m p n π T B ∧ Blks2 m p q n π ∧ S (fun b => bTk m p n π T b * bSz m q n (π b)) (oN m n) = S (cK m p q fun k => bX m p n π T k (oN m n)) n ∧ -12000000000000 ≤ S (cK m p q fun k => bX m p n π T k (oN m n)) n ∧ S (cK m p q fun k => bX m p n π T k (oN m n)) n ≤ 12000000000000 := by
  obtain ⟨hO, hT0, hT1⟩ := dckE_zero h
  have hs := blks2_of hO hq
  obtain ⟨B, hB⟩ := hs.at hT0 hT1
  obtain ⟨hn10, hall⟩ := offsE_zero hO
  have h2 := S_le (p := cK m p q fun k => bX m p n π T k (oN m n)) (a := -1200000000000) (b := 1200000000000) (k := n) fun j hj => C_le (hall j (by omega)).2.1 _ (Nat.le_refl _)
  exact ⟨B, hB, hs, hs.cost hB, by omega, by omega⟩
theorem wlWaste (s : Nat → ByteArray) (m : Nat → Nat) (p q : Nat → Nat → Int) (n nx : Nat) (x : Nat → Int) (hn : n ≤ maxLen) (hk : ∀ k, k < n → (s k).size ≤ maxLen ∧ m k ≤ maxLen) (hnx : nx ≤ maxLen) :
    Fn Try.prog 62 [.c (.sl 2 n (cO s m p q)), .c (.sl 1 nx (c1 x))] (wasteG n nx s m p q x) := by
  refine fn_of_wpx (O := lex) tab_ok gamW1_ok mixed Try.func62 (by kernel_rfl) rfl rfl rfl (by simp [Try.ntmps62]) (by kernel_rfl) ?_
  have hn' : n ≤ 9223372036854775807 := hn
  have hnx' : nx ≤ 9223372036854775807 := hnx
  conv => whnf
  repeat' (first
    | (refine NilG.mk fun bn hbn => ?_; conv => whnf)
    | (refine Both.mk ?_ ?_ <;> conv => whnf)
    | exact trivial
    | (refine Br.mk (fun hb => ?_) (fun hb => ?_) <;> (first | (exfalso; revert hb; decide) | ((try simp only [BL] at hb) <;> (try simp only [DL] at hb) <;> conv => whnf)))
    | (refine And.intro ?_ ?_; (focus (first | exact id | exact rfl | exact trivial | (intro hg; first | exact hg | exact rfl | (simp; done) | (simp at hg ⊢; assumption)) | omega | decide | exact is2_c _ _ _ | exact is1_c _ _ | exact isS_c _ _ | exact isB_c _ _ | exact Nat.le_refl _ | assumption | exact mulLe (by decide) (by omega) | exact mulLe2 (by decide) (by omega) (by omega) | (intros; simp only [BL] at *; omega) | (intros; (try simp only [BL] at *); (try simp only [DL] at *); omega) | (intros; simp only [BL] at *; rw [wr_id (by omega) (by omega)]; omega) | (intros; simp_all; done) | exact ⟨isO_c hn hk, is1_c _ _, hnx⟩)); conv => whnf)
    | (refine Or.inr (And.intro rfl ?_); first | (refine congrArg intV ?_) | (refine congrArg boolV ?_) | (refine tupII ?_ ?_) | (refine tupIII ?_ ?_ ?_) | (refine tupU ?_ ?_ ?_ ?_ ?_) | exact rfl))
  · have h0 : ¬ dxE n nx s m p q x = 0 := hb
    exact .inr ⟨rfl, 0, rfl, fun _ => rfl, fun h => absurd h h0⟩
  have h0 : dxE n nx s m p q x = 0 := hb
  obtain ⟨hO, hl, hx, hS0, hS1, hS2⟩ := dx_zero h0
  have hD := dck_dx h0
  have hif : (if dxE n nx (dS (cO s m p q)) (oM (cO s m p q)) (oP (cO s m p q)) (oQ (cO s m p q)) (d0 (c1 x)) = 0 then S (d0 (c1 x)) n else 0) = S x n := if_pos h0
  rw [hif]
  refine CallG.mk (Fn.mono (bestR s m p q n (S x n) hn hk) ?_)
  rintro obs r ⟨rfl, K, g, c, rfl, _, hg1⟩
  obtain ⟨hKn, π, hq, rfl, hc⟩ := hg1 hD
  rw [hKn]
  obtain ⟨B, hB, hs, c1, c2, c3⟩ := bCost_b hD hq
  have hd := dsum hO (i := n) (Nat.le_refl _) (by have := h0; unfold dxE at this; rw [if_neg (fun h => h hO), if_neg (fun h => h hl)] at this; exact this)
  rw [hD]
  conv => whnf
  repeat' (first
    | (refine NilG.mk fun bn hbn => ?_; conv => whnf)
    | (refine Both.mk ?_ ?_ <;> conv => whnf)
    | exact trivial
    | (refine Br.mk (fun hb => ?_) (fun hb => ?_) <;> (first | (exfalso; revert hb; decide) | ((try simp only [BL] at hb) <;> (try simp only [DL] at hb) <;> conv => whnf)))
    | (refine And.intro ?_ ?_; (focus (first | exact id | exact rfl | exact trivial | (intro hg; first | exact hg | exact rfl | (simp; done) | (simp at hg ⊢; assumption)) | omega | decide | exact is2_c _ _ _ | exact is1_c _ _ | exact isS_c _ _ | exact isB_c _ _ | exact Nat.le_refl _ | assumption | exact mulLe (by decide) (by omega) | exact mulLe2 (by decide) (by omega) (by omega) | (intros; simp only [BL] at *; omega) | (intros; (try simp only [BL] at *); (try simp only [DL] at *); omega) | (intros; simp only [BL] at *; rw [wr_id (by omega) (by omega)]; omega) | (intros; simp_all; done))); conv => whnf)
    | (refine Or.inr (And.intro rfl ?_); first | (refine congrArg intV ?_) | (refine congrArg boolV ?_) | (refine tupII ?_ ?_) | (refine tupIII ?_ ?_ ?_) | (refine tupU ?_ ?_ ?_ ?_ ?_) | exact rfl))
  refine .inr ⟨rfl, IntKind.i64.wrap ((if dxE n nx s m p q x = 0 then S (cK m p q x) n else 0) - c), (congrArg (fun z => AV.tup [intV (IntKind.i64.wrap ((if dxE n nx s m p q x = 0 then S (cK m p q x) n else 0) - c)), intV z]) h0).symm, fun h => absurd h0 h, fun _ => ⟨π, hq, ?_⟩⟩
  rw [if_pos h0, hc, wr_id (by omega) (by omega)]

/-- the transfer that saves most, over the offers before i, and for offer i over the offers before k -/
def mvS (m : Nat → Nat) (p q : Nat → Nat → Int) (x : Nat → Int) (st : Int × Int × Int) (i k : Nat) : Int × Int × Int :=
  if (i ≠ k ∧ 0 < x i ∧ x k < S (p k) (m k)) ∧ st.2.2 < U (p i) (q i) (m i) (x i - 1) - U (p k) (q k) (m k) (x k) then (i, k, U (p i) (q i) (m i) (x i - 1) - U (p k) (q k) (m k) (x k)) else st
def mvI (m : Nat → Nat) (p q : Nat → Nat → Int) (x : Nat → Int) (st : Int × Int × Int) (i : Nat) : Nat → Int × Int × Int
  | 0 => st
  | k + 1 => mvS m p q x (mvI m p q x st i k) i k
def mvF (n : Nat) (m : Nat → Nat) (p q : Nat → Nat → Int) (x : Nat → Int) : Nat → Int × Int × Int
  | 0 => (0, 0, 0)
  | i + 1 => mvI m p q x (mvF n m p q x i) i n
def mvE (n nx : Nat) (s : Nat → ByteArray) (m : Nat → Nat) (p q : Nat → Nat → Int) (x : Nat → Int) : Int := if dxE n nx s m p q x ≠ 0 then dxE n nx s m p q x else if (mvF n m p q x n).2.2 = 0 then 8 else 0
abbrev mvV (n nx : Nat) (s : Nat → ByteArray) (m : Nat → Nat) (p q : Nat → Nat → Int) (x : Nat → Int) : AV :=
  .tup [intV (if mvE n nx s m p q x = 0 then (mvF n m p q x n).1 else 0), intV (if mvE n nx s m p q x = 0 then (mvF n m p q x n).2.1 else 0), intV (if mvE n nx s m p q x = 0 then (mvF n m p q x n).2.2 else 0), intV (mvE n nx s m p q x)]
theorem U_b {n : Nat} {p q : Nat → Int} (h : okOff n p q) (x : Int) : -1000000 ≤ U p q n x ∧ U p q n x ≤ 2000000 := by
  obtain ⟨_, h1, _, _⟩ := h
  by_cases hj : ∃ j, j < n ∧ x < S p (j + 1)
  · obtain ⟨j, hj, h2⟩ := hj
    obtain ⟨i, hi, h3, h4⟩ : ∃ i, i < n ∧ x < S p (i + 1) ∧ ∀ k, k < i → S p (k + 1) ≤ x := by
      induction j with
      | zero => exact ⟨0, hj, h2, fun k hk => absurd hk (Nat.not_lt_zero _)⟩
      | succ j ih =>
        by_cases h5 : x < S p (j + 1)
        · exact ih (by omega) h5
        · refine ⟨j + 1, hj, h2, fun k hk => ?_⟩
          have := S_mono (p := p) (i := k + 1) (j := j + 1) (fun z hz => by have := h1 z (by omega); omega) (by omega)
          omega
    rw [U_at h4 h3 hi]
    have := h1 i hi
    omega
  · rw [U_none fun j hj' => by
      by_cases h5 : x < S p (j + 1)
      · exact absurd ⟨j, hj', h5⟩ hj
      · omega]
    omega
theorem mvI_b (n : Nat) (m : Nat → Nat) (p q : Nat → Nat → Int) (x : Nat → Int) (hall : ∀ k, k < n → okOff (m k) (p k) (q k)) {st : Int × Int × Int} {i : Nat} (hi : i < n) (h0 : 0 ≤ st.2.2 ∧ st.2.2 ≤ 3000000) : ∀ k, k ≤ n → 0 ≤ (mvI m p q x st i k).2.2 ∧ (mvI m p q x st i k).2.2 ≤ 3000000
  | 0, _ => h0
  | k + 1, hk => by
    have ih := mvI_b n m p q x hall hi h0 k (by omega)
    have h1 := U_b (hall i hi) (x i - 1)
    have h2 := U_b (hall k (by omega)) (x k)
    simp only [mvI, mvS]
    split
    · dsimp only; omega
    · exact ih
theorem mvF_b (n : Nat) (m : Nat → Nat) (p q : Nat → Nat → Int) (x : Nat → Int) (hall : ∀ k, k < n → okOff (m k) (p k) (q k)) : ∀ i, i ≤ n → 0 ≤ (mvF n m p q x i).2.2 ∧ (mvF n m p q x i).2.2 ≤ 3000000
  | 0, _ => ⟨Int.le_refl _, show (0 : Int) ≤ 3000000 by decide⟩
  | i + 1, hi => mvI_b n m p q x hall (by omega) (mvF_b n m p q x hall i (by omega)) n (Nat.le_refl _)
set_option maxHeartbeats 1000000 in
theorem wlMove (s : Nat → ByteArray) (m : Nat → Nat) (p q : Nat → Nat → Int) (n nx : Nat) (x : Nat → Int) (hn : n ≤ maxLen) (hk : ∀ k, k < n → (s k).size ≤ maxLen ∧ m k ≤ maxLen) (hnx : nx ≤ maxLen) :
    Fn1 Try.prog 61 [.c (.sl 2 n (cO s m p q)), .c (.sl 1 nx (c1 x))] (mvV n nx s m p q x) := by
  refine fn_of_wpx (O := lex) tab_ok gamW1_ok mixed Try.func61 (by kernel_rfl) rfl rfl rfl (by simp [Try.ntmps61]) (by kernel_rfl) ?_
  have hn' : n ≤ 9223372036854775807 := hn
  have hnx' : nx ≤ 9223372036854775807 := hnx
  conv => whnf
  repeat' (first
    | (refine NilG.mk fun bn hbn => ?_; conv => whnf)
    | (refine Both.mk ?_ ?_ <;> conv => whnf)
    | exact trivial
    | (refine Br.mk (fun hb => ?_) (fun hb => ?_) <;> (first | (exfalso; revert hb; decide) | ((try simp only [BL] at hb) <;> (try simp only [DL] at hb) <;> conv => whnf)))
    | (refine And.intro ?_ ?_; (focus (first | exact id | exact rfl | exact trivial | (intro hg; first | exact hg | exact rfl | (simp; done) | (simp at hg ⊢; assumption)) | omega | decide | exact is2_c _ _ _ | exact is1_c _ _ | exact isS_c _ _ | exact isB_c _ _ | exact Nat.le_refl _ | assumption | exact mulLe (by decide) (by omega) | exact mulLe2 (by decide) (by omega) (by omega) | (intros; simp only [BL] at *; omega) | (intros; (try simp only [BL] at *); (try simp only [DL] at *); omega) | (intros; simp only [BL] at *; rw [wr_id (by omega) (by omega)]; omega) | (intros; simp_all; done) | exact ⟨isO_c hn hk, is1_c _ _, hnx⟩)); conv => whnf)
    | (refine Or.inr (And.intro rfl ?_); first | (refine congrArg intV ?_) | (refine congrArg boolV ?_) | (refine tupII ?_ ?_) | (refine tupIII ?_ ?_ ?_) | (refine tupU ?_ ?_ ?_ ?_ ?_) | exact rfl))
  · have h0 : ¬ dxE n nx s m p q x = 0 := hb
    have hE : mvE n nx s m p q x = dxE n nx s m p q x := if_pos h0
    refine .inr ⟨rfl, ?_⟩
    show _ = mvV n nx s m p q x
    simp only [mvV, hE, if_neg h0]
    rfl
  have h0 : dxE n nx s m p q x = 0 := hb
  obtain ⟨hO, hl, hx, _, _, _⟩ := dx_zero h0
  subst hl
  obtain ⟨hn10, hall⟩ := offsE_zero hO
  have hall2 : ∀ k, k < nx → okOff (m k) (p k) (q k) := fun k hk => (hall k hk).2.1
  have hxe : ∀ k, k < nx → offXE (s k) (m k) (p k) (q k) (x k) = 0 := fun k hk => by
    have := hx k hk
    unfold offXE
    rw [if_neg (fun h => h (hall k hk).1), if_neg (by omega)]
  clear hb
  refine sem_loop tab_ok gamW1_ok mixed (by kernel_rfl) (O := lex) (fun i : Nat => ⟨[(0, .c (.sl 2 nx (cO s m p q))), (1, .c (.sl 1 nx (c1 x))), (11, intV (mvF nx m p q x i).1), (12, intV (mvF nx m p q x i).2.1), (13, intV (mvF nx m p q x i).2.2), (34, .c (.sl 2 nx (cO s m p q))), (35, intV nx), (36, intV i)], []⟩) (fun i => i ≤ nx) (fun i => nx - i) ⟨0, [], Nat.zero_le _, ?_⟩ fun i hi => ?_
  · refine Sub.of ?_ ?_ ?_
    repeat' (first | (refine And.intro ?_ ?_) | exact trivial | exact fun _ _ _ => hsc _ _ | (exact congrArg intV (by first | with_reducible rfl | with_reducible assumption)) | exact (rfl : AV.idsLt _ _ = true) | exact (rfl : _ = AV.ren _ (.own _)) | exact (rfl : _ = AV.ren _ (.fn _ _)) | exact (rfl : _ = AV.ren _ (.gh _)) | (exact congrArg intV (by assumption)) | (refine congrArg intV ((wr_id (by omega) (by omega)).trans (by omega))) | exact rfl | (simp only [Int.toNat_natCast, Int.toNat_zero, Nat.sub_zero, Nat.zero_add]; first | exact rfl | done) | exact all0 | exact fun h => Bool.noConfusion h | exact fun _ _ _ _ => rfl | omega)
  have hbi := mvF_b nx m p q x hall2 i hi
  conv => whnf
  repeat' (first
    | (refine NilG.mk fun bn hbn => ?_; conv => whnf)
    | (refine Both.mk ?_ ?_ <;> conv => whnf)
    | exact trivial
    | (refine Br.mk (fun hb => ?_) (fun hb => ?_) <;> (first | (exfalso; revert hb; decide) | ((try simp only [BL] at hb) <;> (try simp only [DL] at hb) <;> conv => whnf)))
    | (refine And.intro ?_ ?_; (focus (first | exact id | exact rfl | exact trivial | (intro hg; first | exact hg | exact rfl | (simp; done) | (simp at hg ⊢; assumption)) | omega | decide | exact is2_c _ _ _ | exact is1_c _ _ | exact isS_c _ _ | exact isB_c _ _ | exact Nat.le_refl _ | assumption | exact mulLe (by decide) (by omega) | exact mulLe2 (by decide) (by omega) (by omega) | (intros; simp only [BL] at *; omega) | (intros; (try simp only [BL] at *); (try simp only [DL] at *); omega) | (intros; simp only [BL] at *; rw [wr_id (by omega) (by omega)]; omega) | (intros; simp_all; done) | exact ⟨is2_c _ _ _, (hk i (by omega)).1, (hk i (by omega)).2⟩)); conv => whnf)
    | (refine Or.inr (And.intro rfl ?_); first | (refine congrArg intV ?_) | (refine congrArg boolV ?_) | (refine tupII ?_ ?_) | (refine tupIII ?_ ?_ ?_) | (refine tupU ?_ ?_ ?_ ?_ ?_) | exact rfl))
  · have hin : i < nx := by omega
    have hxi := hxe i hin
    have hUi := U_b (hall2 i hin) (x i - 1)
    have hlast : (if offXE (s i) (m i) (p i) (q i) (x i) = 0 then (if 0 < x i then U (p i) (q i) (m i) (x i - 1) else -2000000) else 0) = (if 0 < x i then U (p i) (q i) (m i) (x i - 1) else -2000000) := if_pos hxi
    clear hb
    refine sem_loop tab_ok gamW1_ok mixed (by kernel_rfl) (O := lex) (fun k : Nat => ⟨[(0, .c (.sl 2 nx (cO s m p q))), (1, .c (.sl 1 nx (c1 x))), (11, intV (mvI m p q x (mvF nx m p q x i) i k).1), (12, intV (mvI m p q x (mvF nx m p q x i) i k).2.1), (13, intV (mvI m p q x (mvF nx m p q x i) i k).2.2), (14, intV i), (16, intV (if 0 < x i then U (p i) (q i) (m i) (x i - 1) else -2000000)), (34, .c (.sl 2 nx (cO s m p q))), (35, intV nx), (36, intV i), (51, .c (.sl 2 nx (cO s m p q))), (52, intV nx), (53, intV k)], []⟩) (fun k => k ≤ nx) (fun k => nx - k) ⟨0, [], Nat.zero_le _, ?_⟩ fun k hkn => ?_
    · refine Sub.of ?_ ?_ ?_
      repeat' (first | (refine And.intro ?_ ?_) | exact trivial | exact fun _ _ _ => hsc _ _ | (exact congrArg intV (by first | with_reducible rfl | with_reducible assumption)) | exact (rfl : AV.idsLt _ _ = true) | exact (rfl : _ = AV.ren _ (.own _)) | exact (rfl : _ = AV.ren _ (.fn _ _)) | exact (rfl : _ = AV.ren _ (.gh _)) | (exact congrArg intV (by assumption)) | (refine congrArg intV ((wr_id (by omega) (by omega)).trans (by omega))) | exact rfl | (simp only [Int.toNat_natCast, Int.toNat_zero, Nat.sub_zero, Nat.zero_add]; first | exact rfl | done) | exact all0 | exact fun h => Bool.noConfusion h | exact fun _ _ _ _ => rfl | omega)
    have hbk := mvI_b nx m p q x hall2 hin hbi k hkn
    have hstep : mvI m p q x (mvF nx m p q x i) i (k + 1) = mvS m p q x (mvI m p q x (mvF nx m p q x i) i k) i k := rfl
    have hxk := hxe k
    have hkk := hall2 k
    conv => whnf
    repeat' (first
      | (refine NilG.mk fun bn hbn => ?_; conv => whnf)
      | (refine Both.mk ?_ ?_ <;> conv => whnf)
      | exact trivial
      | (refine Br.mk (fun hb => ?_) (fun hb => ?_) <;> (first | (exfalso; revert hb; decide) | ((try simp only [BL] at hb) <;> (try simp only [DL] at hb) <;> conv => whnf)))
      | (refine And.intro ?_ ?_; (focus (first | exact id | exact rfl | exact trivial | (intro hg; first | exact hg | exact rfl | (simp; done) | (simp at hg ⊢; assumption)) | omega | decide | exact is2_c _ _ _ | exact is1_c _ _ | exact isS_c _ _ | exact isB_c _ _ | exact Nat.le_refl _ | assumption | exact mulLe (by decide) (by omega) | exact mulLe2 (by decide) (by omega) (by omega) | (intros; simp only [BL] at *; omega) | (intros; (try simp only [BL] at *); (try simp only [DL] at *); omega) | (intros; simp only [BL] at *; rw [wr_id (by omega) (by omega)]; omega) | (intros; simp_all; done) | first | exact ⟨is2_c _ _ _, (hk k (by omega)).1, (hk k (by omega)).2⟩ | exact fun _ => ⟨is2_c _ _ _, hall2 k (by omega)⟩ | exact ⟨is2_c _ _ _, hall2 k (by omega)⟩)); conv => whnf)
      | (refine Or.inr (And.intro rfl ?_); first | (refine congrArg intV ?_) | (refine congrArg boolV ?_) | (refine tupII ?_ ?_) | (refine tupIII ?_ ?_ ?_) | (refine tupU ?_ ?_ ?_ ?_ ?_) | exact rfl))
    · have hkn' : k < nx := by omega
      have hxk := hxk hkn'
      have hUk := U_b (hkk hkn') (x k)
      obtain ⟨⟨⟨hb1, hb2⟩, hb3⟩, hb4⟩ := hb
      rw [if_pos hb2, if_pos hxk, wr_id (by omega) (by omega)] at hb4
      have e1 : mvI m p q x (mvF nx m p q x i) i (k + 1) = ((i : Int), (k : Int), U (p i) (q i) (m i) (x i - 1) - U (p k) (q k) (m k) (x k)) := by
        rw [hstep]
        unfold mvS
        rw [if_pos ⟨⟨by omega, hb2, hb3⟩, hb4⟩]
      have e2 : (i : Int) = (mvI m p q x (mvF nx m p q x i) i (k + 1)).1 := by rw [e1]
      have e3 : (k : Int) = (mvI m p q x (mvF nx m p q x i) i (k + 1)).2.1 := by rw [e1]
      have e4 : IntKind.i64.wrap ((if 0 < x i then U (p i) (q i) (m i) (x i - 1) else -2000000) - if offXE (s k) (m k) (p k) (q k) (x k) = 0 then U (p k) (q k) (m k) (x k) else 0) = (mvI m p q x (mvF nx m p q x i) i (k + 1)).2.2 := by
        rw [if_pos hb2, if_pos hxk, wr_id (by omega) (by omega), e1]
      refine ⟨k + 1, [], by omega, by omega, ?_⟩
      refine Sub.of ?_ ?_ ?_
      repeat' (first | (refine And.intro ?_ ?_) | exact trivial | exact fun _ _ _ => hsc _ _ | (exact congrArg intV (by first | with_reducible rfl | with_reducible assumption)) | exact (rfl : AV.idsLt _ _ = true) | exact (rfl : _ = AV.ren _ (.own _)) | exact (rfl : _ = AV.ren _ (.fn _ _)) | exact (rfl : _ = AV.ren _ (.gh _)) | (exact congrArg intV (by assumption)) | (refine congrArg intV ((wr_id (by omega) (by omega)).trans (by omega))) | exact rfl | (simp only [Int.toNat_natCast, Int.toNat_zero, Nat.sub_zero, Nat.zero_add]; first | exact rfl | done) | exact all0 | exact fun h => Bool.noConfusion h | exact fun _ _ _ _ => rfl | omega)
    · have hkn' : k < nx := by omega
      have hxk := hxk hkn'
      have hUk := U_b (hkk hkn') (x k)
      have e1 : mvI m p q x (mvF nx m p q x i) i k = mvI m p q x (mvF nx m p q x i) i (k + 1) := by
        rw [hstep]
        unfold mvS
        rw [if_neg]
        rintro ⟨⟨h1, h2, h3⟩, h4⟩
        rw [if_pos h2, if_pos hxk, wr_id (by omega) (by omega)] at hb
        omega
      have e2 : (mvI m p q x (mvF nx m p q x i) i k).1 = (mvI m p q x (mvF nx m p q x i) i (k + 1)).1 := by rw [← e1]
      have e3 : (mvI m p q x (mvF nx m p q x i) i k).2.1 = (mvI m p q x (mvF nx m p q x i) i (k + 1)).2.1 := by rw [← e1]
      have e4 : (mvI m p q x (mvF nx m p q x i) i k).2.2 = (mvI m p q x (mvF nx m p q x i) i (k + 1)).2.2 := by rw [← e1]
      refine ⟨k + 1, [], by omega, by omega, ?_⟩
      refine Sub.of ?_ ?_ ?_
      repeat' (first | (refine And.intro ?_ ?_) | exact trivial | exact fun _ _ _ => hsc _ _ | (exact congrArg intV (by first | with_reducible rfl | with_reducible assumption)) | exact (rfl : AV.idsLt _ _ = true) | exact (rfl : _ = AV.ren _ (.own _)) | exact (rfl : _ = AV.ren _ (.fn _ _)) | exact (rfl : _ = AV.ren _ (.gh _)) | (exact congrArg intV (by assumption)) | (refine congrArg intV ((wr_id (by omega) (by omega)).trans (by omega))) | exact rfl | (simp only [Int.toNat_natCast, Int.toNat_zero, Nat.sub_zero, Nat.zero_add]; first | exact rfl | done) | exact all0 | exact fun h => Bool.noConfusion h | exact fun _ _ _ _ => rfl | omega)
    · obtain rfl : k = nx := by omega
      have e1 : mvI m p q x (mvF k m p q x i) i k = mvF k m p q x (i + 1) := rfl
      have e2 : (mvI m p q x (mvF k m p q x i) i k).1 = (mvF k m p q x (i + 1)).1 := by rw [← e1]
      have e3 : (mvI m p q x (mvF k m p q x i) i k).2.1 = (mvF k m p q x (i + 1)).2.1 := by rw [← e1]
      have e4 : (mvI m p q x (mvF k m p q x i) i k).2.2 = (mvF k m p q x (i + 1)).2.2 := by rw [← e1]
      refine ⟨i + 1, [], by omega, by omega, ?_⟩
      refine Sub.of ?_ ?_ ?_
      repeat' (first | (refine And.intro ?_ ?_) | exact trivial | exact fun _ _ _ => hsc _ _ | (exact congrArg intV (by first | with_reducible rfl | with_reducible assumption)) | exact (rfl : AV.idsLt _ _ = true) | exact (rfl : _ = AV.ren _ (.own _)) | exact (rfl : _ = AV.ren _ (.fn _ _)) | exact (rfl : _ = AV.ren _ (.gh _)) | (exact congrArg intV (by assumption)) | (refine congrArg intV ((wr_id (by omega) (by omega)).trans (by omega))) | exact rfl | (simp only [Int.toNat_natCast, Int.toNat_zero, Nat.sub_zero, Nat.zero_add]; first | exact rfl | done) | exact all0 | exact fun h => Bool.noConfusion h | exact fun _ _ _ _ => rfl | omega)
  · obtain rfl : i = nx := by omega
    have hE : mvE i i s m p q x = 8 := by unfold mvE; rw [if_neg (fun h => h h0), if_pos hb]
    refine .inr ⟨rfl, ?_⟩
    show _ = mvV i i s m p q x
    simp only [mvV, hE]
    rfl
  · obtain rfl : i = nx := by omega
    have hE : mvE i i s m p q x = 0 := by unfold mvE; rw [if_neg (fun h => h h0), if_neg hb]
    refine .inr ⟨rfl, ?_⟩
    show _ = mvV i i s m p q x
    simp only [mvV, hE]
    rfl
end Go.Proofs.Ytdakikgebfphmaa
