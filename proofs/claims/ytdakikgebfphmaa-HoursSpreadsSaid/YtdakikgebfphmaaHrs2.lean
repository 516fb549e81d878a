/-
  The package hours: Spread.
-/
import Derived.Test.YtdakikgebfphmaaHrs
namespace Go.Proofs.Ytdakikgebfphmaa
open Go.RowKit

/-- what is left over of a part -/
def rmH (T s : Int) (w : Nat → Int) (i : Nat) : Int := Int.tmod (T * w i) s
def bsH (T s : Int) (w : Nat → Int) (i : Nat) : Int := Int.tdiv (T * w i) s
theorem rmH_b {T s : Int} {w : Nat → Int} {i : Nat} (hT : 0 ≤ T) (hs : 0 < s) (hw : 0 ≤ w i) : 0 ≤ rmH T s w i ∧ rmH T s w i < s :=
  ⟨Int.tmod_nonneg _ (Int.mul_nonneg hT hw), Int.tmod_lt_of_pos _ hs⟩
theorem mul_T {T x : Int} (hT : 0 ≤ T ∧ T ≤ 2400000) (hx : 0 ≤ x ∧ x ≤ 100000) : 0 ≤ T * x ∧ T * x ≤ 240000000000 := by
  have := mulB hT.1 hT.2 (show -100000 ≤ x by omega) hx.2 (by decide)
  exact ⟨Int.mul_nonneg hT.1 hx.1, by omega⟩
theorem sp2 (T s : Int) (n : Nat) (w : Nat → Int) (i j : Nat) (hi : i < n) (hj : j < n) (hn : n ≤ 24) (hT : 0 ≤ T ∧ T ≤ 2400000) (hs : 0 < s ∧ s ≤ 2400000) (hw : ∀ k, k < n → 0 ≤ w k ∧ w k ≤ 100000) : Fn1 Try.prog 84 [intV i, intV j, .xp 1 fun k => [iL T].getD k .un, .xp 1 fun k => [L.sl 1 n (c1 w)].getD k .un, .xp 1 fun k => [iL s].getD k .un] (intV (rmH T s w j - rmH T s w i)) := by
  refine fn_of_wpx (O := lex) tab_ok (Γ := fun _ => none) (fun _ _ h => by cases h) mixed Try.func84 (by kernel_rfl) rfl rfl rfl (by simp [Try.ntmps84]) (by kernel_rfl) ?_
  have ki := rmH_b (w := w) (i := i) hT.1 hs.1 (hw i hi).1
  have kj := rmH_b (w := w) (i := j) hT.1 hs.1 (hw j hj).1
  have m1 := mul_T hT (hw i hi)
  have m2 := mul_T hT (hw j hj)
  conv => whnf
  repeat' (first
    | (refine NilG.mk fun bn hbn => ?_; conv => whnf)
    | (refine Both.mk ?_ ?_ <;> conv => whnf)
    | exact trivial
    | (refine Br.mk (fun hb => ?_) (fun hb => ?_) <;> (first | (exfalso; revert hb; decide) | ((try simp only [BL] at hb) <;> (try simp only [DL] at hb) <;> conv => whnf)))
    | (refine And.intro ?_ ?_; (focus (first | exact id | exact rfl | exact trivial | (intro hg; first | exact hg | exact rfl | (simp; done) | (simp at hg ⊢; assumption)) | omega | decide | exact is2_c _ _ _ | exact is1_c _ _ | exact isS_c _ _ | exact isB_c _ _ | exact Nat.le_refl _ | assumption | exact mulLe (by decide) (by omega) | exact mulLe2 (by decide) (by omega) (by omega) | (intros; simp only [BL] at *; omega) | (intros; (try simp only [BL] at *); (try simp only [DL] at *); omega) | (intros; simp only [BL] at *; rw [wr_id (by omega) (by omega)]; omega) | (intros; simp_all; done))); conv => whnf)
    | (refine Or.inr (And.intro rfl ?_); first | (refine congrArg intV ?_) | (refine congrArg boolV ?_) | (refine tupII ?_ ?_) | (refine tupIII ?_ ?_ ?_) | (refine tupU ?_ ?_ ?_ ?_ ?_) | exact rfl))
  · simp only [Int.toNat_natCast]
    rw [wr_id (x := T * w j) (by omega) (by omega), wr_id (x := T * w i) (by omega) (by omega)]
    show IntKind.i64.wrap (rmH T s w j - rmH T s w i) = _
    exact wr_id (by omega) (by omega)

theorem xpH (x : L) : Le1 (.xp 1 fun j => ([x][0 + j]?).getD .un) (.xp 1 fun k => [x].getD k .un) := Le1.xp fun j _ => LLe.of_eq (by rw [Nat.zero_add]; rfl)
theorem cmpH {T s : Int} {n : Nat} {w : Nat → Int} (hn : n ≤ 24) (hT : 0 ≤ T ∧ T ≤ 2400000) (hs : 0 < s ∧ s ≤ 2400000) (hw : ∀ k, k < n → 0 ≤ w k ∧ w k ≤ 100000) : CmpHrs 84 (fun k => ([iL T][0 + k]?).getD .un) (fun k => ([L.sl 1 n (c1 w)][0 + k]?).getD .un) (fun k => ([iL s][0 + k]?).getD .un) (colHrs fun k => if k < n then (k : Int) else 0) (fun k => -rmH T s w k) n :=
  ⟨fun i j hi hj => ⟨_, by
    show Fn1 Try.prog 84 (intV (if i < n then (i : Int) else 0) :: intV (if j < n then (j : Int) else 0) :: _) _
    rw [if_pos hi, if_pos hj]
    exact (sp2 T s n w i j hi hj hn hT hs hw).le (Le.cons (Le1.refl _) (Le.cons (Le1.refl _) (Le.cons (xpH _) (Le.cons (xpH _) (Le.cons (xpH _) Le.nil))))), by omega⟩⟩

/-- the error of Spread -/
def spE (T : Int) (n : Nat) (w : Nat → Int) : Int :=
  if hcE n w ≠ 0 then hcE n w else if (T < 0 ∨ 2400000 < T) ∨ fidx (fun k => negW (w k)) n ≥ 0 then 4 else if S w n = 0 then 10 else 0
/-- how many parts are one larger, the place of each in their order, and the parts -/
def lfH (T : Int) (n : Nat) (w : Nat → Int) : Int := T - S (bsH T (S w n) w) n
def rkH (T : Int) (n : Nat) (w : Nat → Int) (i : Nat) : Int := S (fun k => if sLt (fun k => -rmH T (S w n) w k) k i then 1 else 0) n
def spF (T : Int) (n : Nat) (w : Nat → Int) (i : Nat) : Int := bsH T (S w n) w i + (if rkH T n w i < lfH T n w then 1 else 0)
def spN (T : Int) (n : Nat) (w : Nat → Int) : Nat := if spE T n w = 0 then n else 0
def sIf (g : Int → Bool) : List AV → Sd × AV
  | [.c (.sl 1 n f), .fn _ []] => (.p (is1 n f ∧ n ≤ maxLen), boolV (decide (fidx (fun k => g (d0 f k)) n ≥ 0)))
  | _ => (.p False, .top)
theorem bsH_b {T s : Int} {w : Nat → Int} {i : Nat} (hT : 0 ≤ T ∧ T ≤ 2400000) (hs : 0 < s) (hw : 0 ≤ w i ∧ w i ≤ 100000) : 0 ≤ bsH T s w i ∧ bsH T s w i ≤ 240000000000 := by
  have m := mul_T hT hw
  unfold bsH
  rw [Int.tdiv_eq_ediv_of_nonneg m.1]
  exact ⟨Int.ediv_nonneg m.1 (by omega), Int.le_trans (Int.ediv_le_self _ m.1) m.2⟩
theorem lfH_eq (T s : Int) (w : Nat → Int) : ∀ n, S (rmH T s w) n = T * S w n - s * S (bsH T s w) n
  | 0 => by simp [S]
  | n + 1 => by
    have := lfH_eq T s w n
    have h2 : s * bsH T s w n + rmH T s w n = T * w n := Int.mul_tdiv_add_tmod _ _
    simp only [S]
    rw [Int.mul_add, Int.mul_add]
    omega
theorem lfH_b {T : Int} {n : Nat} {w : Nat → Int} (hT : 0 ≤ T) (hs : 0 < S w n) (hw : ∀ k, k < n → 0 ≤ w k) : 0 ≤ lfH T n w ∧ lfH T n w ≤ n := by
  have h1 := lfH_eq T (S w n) w n
  have h2 := S_le (p := rmH T (S w n) w) (k := n) (a := 0) (b := S w n) fun i hi => by
    have := rmH_b (w := w) (i := i) hT hs (hw i hi)
    omega
  have h3 : S (rmH T (S w n) w) n = S w n * lfH T n w := by
    rw [h1, lfH, Int.mul_sub, Int.mul_comm T]
  rw [h3, Int.zero_mul] at h2
  constructor
  · by_cases h : 0 ≤ lfH T n w
    · exact h
    · have := Int.mul_neg_of_pos_of_neg hs (show lfH T n w < 0 by omega)
      omega
  · exact Int.le_of_mul_le_mul_left h2.2 hs

def sCt : List AV → Sd × AV
  | [.c (.sl 1 n f), .fn F []] => (.p (F = 82 ∧ is1 n f ∧ n ≤ maxLen), boolV (decide (fidx (fun k => negW (d0 f k)) n ≥ 0)))
  | _ => (.p False, .top)
def gamHC : Gam := fun f => match f with
  | 80 => some (s3 fun n a b => !inB n a b)
  | 36 => some sHc
  | 81 => some sCt
  | _ => none
theorem gamHC_ok : GOk Try.prog gamHC := fun f g h => by
  unfold gamHC at h
  split at h
  · injection h with h; subst h; exact s3_ok hOut
  · injection h with h; subst h
    intro args hs _
    unfold sHc at hs ⊢
    split at hs
    · exact (hCheck _ _ hs.2).le (Le.cons (Le1.sl hs.1) Le.nil)
    · exact hs.elim
  · injection h with h; subst h
    intro args hs _
    unfold sCt at hs ⊢
    split at hs
    · obtain ⟨rfl, h1, h2⟩ := hs
      exact (hCont hNeg _ _ h2).le (Le.cons (Le1.sl h1) (Le.cons (Le1.refl _) Le.nil))
    · exact hs.elim
  · cases h

def ordHs : Ord := fun id => if id = 14 then some (.fork (.alt 0 (.go 1 (.fork (.alt 2 (.go 6 (.go 3 (.go 4 (.go 5 (.go 7 (.done)))))) (.alt 3 (.go 4 (.fork (.alt 2 (.go 6 (.go 5 (.go 7 (.done)))) (.alt 5 (.go 2 (.go 6 (.go 7 (.done)))) (.none))))) (.none))))) (.alt 3 (.go 4 (.fork (.alt 0 (.go 1 (.fork (.alt 2 (.go 6 (.go 5 (.go 7 (.done)))) (.alt 5 (.go 2 (.go 6 (.go 7 (.done)))) (.none))))) (.alt 5 (.go 0 (.go 1 (.go 2 (.go 6 (.go 7 (.done)))))) (.none))))) (.none)))) else none
def spK (T : Int) (n : Nat) (w : Nat → Int) (obs : List OB) (v : AV) : Prop :=
  obs = [] ∧ ((spE T n w ≠ 0 ∧ v = .tup [.c (.v (.slice none 0 0)), intV (spE T n w)]) ∨ (spE T n w = 0 ∧ v = .tup [.c (.sl 1 n (c1 (spF T n w))), intV 0]))
set_option maxHeartbeats 1000000 in
theorem hSpread (T : Int) (n : Nat) (w : Nat → Int) (hn : n ≤ maxLen) : Fn Try.prog 33 [intV T, .c (.sl 1 n (c1 w))] (spK T n w) := by
  refine fn_of_wpx (O := ordHs) tab_ok gamHC_ok mixed Try.func33 (by kernel_rfl) rfl rfl rfl (by simp [Try.ntmps33]) (by kernel_rfl) ?_
  have hn' : n ≤ 9223372036854775807 := hn
  conv => whnf
  repeat' (first
    | (refine NilG.mk fun bn hbn => ?_; conv => whnf)
    | (refine Both.mk ?_ ?_ <;> conv => whnf)
    | exact trivial
    | (refine Br.mk (fun hb => ?_) (fun hb => ?_) <;> (first | (exfalso; revert hb; decide) | ((try simp only [BL] at hb) <;> (try simp only [DL] at hb) <;> conv => whnf)))
    | (refine And.intro ?_ ?_; (focus (first | exact id | exact rfl | exact trivial | (intro hg; first | exact hg | exact rfl | (simp; done) | (simp at hg ⊢; assumption)) | omega | decide | exact is2_c _ _ _ | exact is1_c _ _ | exact isS_c _ _ | exact isB_c _ _ | exact Nat.le_refl _ | assumption | exact mulLe (by decide) (by omega) | exact mulLe2 (by decide) (by omega) (by omega) | (intros; simp only [BL] at *; omega) | (intros; (try simp only [BL] at *); (try simp only [DL] at *); omega) | (intros; simp only [BL] at *; rw [wr_id (by omega) (by omega)]; omega) | (intros; simp_all; done) | first | exact ⟨is1_c _ _, hn⟩ | exact fun _ => ⟨rfl, is1_c _ _, hn⟩)); conv => whnf)
    | (refine Or.inr (And.intro rfl ?_); first | (refine congrArg intV ?_) | (refine congrArg boolV ?_) | (refine tupII ?_ ?_) | (refine tupIII ?_ ?_ ?_) | (refine tupU ?_ ?_ ?_ ?_ ?_) | exact rfl))
  · have h0 : ¬ hcE n w = 0 := hb
    have hE : spE T n w = hcE n w := if_pos h0
    exact .inr ⟨rfl, .inl ⟨by rw [hE]; exact h0, by rw [hE]; rfl⟩⟩
  · rename_i h1
    have h1 : hcE n w = 0 := h1
    have hE : spE T n w = 4 := by unfold spE; rw [if_neg (fun h => h h1), if_pos (by omega)]
    exact .inr ⟨rfl, .inl ⟨by rw [hE]; decide, by rw [hE]; rfl⟩⟩
  rename_i h1
  have h1 : hcE n w = 0 := h1
  have hT : 0 ≤ T ∧ T ≤ 2400000 := hb.1
  have hN : ¬ fidx (fun k => negW (w k)) n ≥ 0 := hb.2
  obtain ⟨hn24, hw0⟩ := hcE_zero h1
  have hw : ∀ k, k < n → 0 ≤ w k ∧ w k ≤ 100000 := fun k hk => by
    have k1 := fidx_neg hN k hk
    have k2 := hw0 k hk
    simp only [negW, BL] at k1
    omega
  have hS : ∀ k, k ≤ n → 0 ≤ S w k ∧ S w k ≤ 2400000 := fun k hk => by
    have := S_le (p := w) (k := k) (a := 0) (b := 100000) fun i hi => hw i (by omega)
    omega
  clear hb
  refine sem_loop tab_ok gamHC_ok mixed (by kernel_rfl) (O := ordHs) (fun i : Nat => ⟨[(2, .lp 0 0), (3, .lp 1 0), (7, .lp 2 0), (28, .c (.sl 1 n (c1 w))), (29, intV n), (30, intV i)], [.box [intV T], .box [.c (.sl 1 n (c1 w))], .box [intV (S w i)]]⟩) (fun i => i ≤ n) (fun i => n - i) ⟨0, [?_, ?_, ?_], Nat.zero_le _, ?_⟩ fun i hi => ?_
  rotate_left 3
  · refine Sub.of ?_ ?_ ?_
    repeat' (first | (refine And.intro ?_ ?_) | exact trivial | exact fun _ _ _ => hsc _ _ | (exact congrArg intV (by first | with_reducible rfl | with_reducible assumption)) | exact (rfl : AV.idsLt _ _ = true) | exact (rfl : _ = AV.ren _ (.own _)) | exact (rfl : _ = AV.ren _ (.fn _ _)) | exact (rfl : _ = AV.ren _ (.gh _)) | (exact congrArg intV (by assumption)) | (refine congrArg intV ((wr_id (by omega) (by omega)).trans (by omega))) | exact rfl | (simp only [Int.toNat_natCast, Int.toNat_zero, Nat.sub_zero, Nat.zero_add]; first | exact rfl | done) | exact all0 | exact fun h => Bool.noConfusion h | exact fun _ _ _ _ => rfl | omega)
  have ew : i < n → IntKind.i64.wrap (S w i + w (i : Int).toNat) = S w (i + 1) := fun h => by
    have k1 := hS i (by omega)
    have k2 := hw i h
    rw [Int.toNat_natCast, wr_id (by omega) (by omega)]
    rfl
  conv => whnf
  repeat' (first
    | (refine NilG.mk fun bn hbn => ?_; conv => whnf)
    | (refine Both.mk ?_ ?_ <;> conv => whnf)
    | exact trivial
    | (refine Br.mk (fun hb => ?_) (fun hb => ?_) <;> (first | (exfalso; revert hb; decide) | ((try simp only [BL] at hb) <;> (try simp only [DL] at hb) <;> conv => whnf)))
    | (refine And.intro ?_ ?_; (focus (first | exact id | exact rfl | exact trivial | (intro hg; first | exact hg | exact rfl | (simp; done) | (simp at hg ⊢; assumption)) | omega | decide | exact is2_c _ _ _ | exact is1_c _ _ | exact isS_c _ _ | exact isB_c _ _ | exact Nat.le_refl _ | assumption | exact mulLe (by decide) (by omega) | exact mulLe2 (by decide) (by omega) (by omega) | (intros; simp only [BL] at *; omega) | (intros; (try simp only [BL] at *); (try simp only [DL] at *); omega) | (intros; simp only [BL] at *; rw [wr_id (by omega) (by omega)]; omega) | (intros; simp_all; done))); conv => whnf)
    | (refine Or.inr (And.intro rfl ?_); first | (refine congrArg intV ?_) | (refine congrArg boolV ?_) | (refine tupII ?_ ?_) | (refine tupIII ?_ ?_ ?_) | (refine tupU ?_ ?_ ?_ ?_ ?_) | exact rfl))
  · have ew := ew (by omega)
    refine ⟨i + 1, [?_, ?_, ?_], by omega, by omega, ?_⟩
    rotate_left 3
    refine Sub.of ?_ ?_ ?_
    repeat' (first | (refine And.intro ?_ ?_) | exact trivial | exact fun _ _ _ => hsc _ _ | (exact congrArg intV (by first | with_reducible rfl | with_reducible assumption)) | exact (rfl : AV.idsLt _ _ = true) | exact (rfl : _ = AV.ren _ (.own _)) | exact (rfl : _ = AV.ren _ (.fn _ _)) | exact (rfl : _ = AV.ren _ (.gh _)) | (exact congrArg intV (by assumption)) | (refine congrArg intV ((wr_id (by omega) (by omega)).trans (by omega))) | exact rfl | (simp only [Int.toNat_natCast, Int.toNat_zero, Nat.sub_zero, Nat.zero_add]; first | exact rfl | done) | exact all0 | exact fun h => Bool.noConfusion h | exact fun _ _ _ _ => rfl | omega)
    show [intV (IntKind.i64.wrap (S w i + w (i : Int).toNat))] = [intV (S w (i + 1))]
    rw [ew]
  · have h2 : S w i = 0 := hb
    have hin : i = n := by omega
    subst hin
    have hE : spE T i w = 10 := by unfold spE; rw [if_neg (fun h => h h1), if_neg (fun h => h.elim (by omega) hN), if_pos h2]
    exact .inr ⟨rfl, .inl ⟨by rw [hE]; decide, by rw [hE]; rfl⟩⟩
  all_goals
    have h2 : ¬ S w i = 0 := hb
    have hin : i = n := by omega
    subst hin
    clear ew
    have hE : spE T i w = 0 := by unfold spE; rw [if_neg (fun h => h h1), if_neg (fun h => h.elim (by omega) hN), if_neg h2]
    have hs := hS i (Nat.le_refl _)
    have hs : 0 < S w i ∧ S w i ≤ 2400000 := by omega
    clear hb
    generalize hd : S w i = d at *
    have hbs := fun k (hk : k < i) => bsH_b (i := k) hT hs.1 (hw k hk)
    have hsc : ∀ x : Int, (iL x).scal = true := fun _ => rfl
    have hs0 : T = T - S (bsH T d w) 0 := (Int.sub_zero T).symm
    have hwd : ∀ k, k < i → IntKind.i64.wrap ((IntKind.i64.wrap (T * w k)).tdiv d) = bsH T d w k := fun k hk => by
      have k1 := mul_T hT (hw k hk)
      have k2 := hbs k hk
      rw [wr_id (x := T * w k) (by omega) (by omega)]
      exact wr_id (by unfold bsH at k2; omega) (by unfold bsH at k2; omega)
    have hwe : ∀ k, k < i → IntKind.i64.wrap (T - S (bsH T d w) k - bsH T d w k) = T - S (bsH T d w) (k + 1) := fun k hk => by
      have k1 := S_le (p := bsH T d w) (k := k) (a := 0) (b := 240000000000) fun z hz => hbs z (by omega)
      have k2 := hbs k hk
      rw [wr_id (by omega) (by omega)]
      simp only [S]
      omega
    have hlf := lfH_b (n := i) hT.1 (by rw [hd]; exact hs.1) fun k hk => (hw k hk).1
    have hlf : 0 ≤ T - S (bsH T d w) i ∧ T - S (bsH T d w) i ≤ i := by unfold lfH at hlf; rw [hd] at hlf; exact hlf
    refine sem_loop tab_ok gamHC_ok mixed (by kernel_rfl) (O := ordHs) (fun j : Nat => ⟨[(2, .lp 0 0), (3, .lp 1 0), (7, .lp 2 0), (10, .own 3), (11, .own 4), (12, intV (T - S (bsH T d w) j)), (47, .c (.sl 1 i (c1 w))), (48, intV i), (49, intV j)], [.box [intV T], .box [.c (.sl 1 i (c1 w))], .box [intV d], .row 3 1 i true (fun k _ => iL (if k < j then bsH T d w k else 0)), .row 3 1 i true (fun k _ => iL (if k < j then k else 0))]⟩) (fun j => j ≤ i) (fun j => i - j) ⟨0, [?_, ?_, ?_, ?_, ?_], Nat.zero_le _, ?_⟩ fun j hj => ?_
    rotate_left 5
    · refine Sub.of ?_ ?_ ?_
      repeat' (first | (refine And.intro ?_ ?_) | exact trivial | exact fun _ _ _ => hsc _ _ | (exact congrArg intV (by first | with_reducible rfl | with_reducible assumption)) | exact (rfl : AV.idsLt _ _ = true) | exact (rfl : _ = AV.ren _ (.own _)) | exact (rfl : _ = AV.ren _ (.fn _ _)) | exact (rfl : _ = AV.ren _ (.gh _)) | (exact congrArg intV (by assumption)) | (refine congrArg intV ((wr_id (by omega) (by omega)).trans (by omega))) | exact rfl | (simp only [Int.toNat_natCast, Int.toNat_zero, Nat.sub_zero, Nat.zero_add]; first | exact rfl | done) | exact all0 | exact fun h => Bool.noConfusion h | exact fun _ _ _ _ => rfl | omega)
      · exact fun _ _ _ => hsc _
      · intro a _ b hb1
        have hb1 : b < 1 := hb1
        obtain rfl : b = 0 := by omega
        show iL 0 = iL (if a < 0 then _ else 0)
        rw [if_neg (Nat.not_lt_zero a)]
      · exact fun _ _ _ => hsc _
      · intro a _ b hb1
        have hb1 : b < 1 := hb1
        obtain rfl : b = 0 := by omega
        show iL 0 = iL (if a < 0 then _ else 0)
        rw [if_neg (Nat.not_lt_zero a)]
    conv => whnf
    repeat' (first
      | (refine NilG.mk fun bn hbn => ?_; conv => whnf)
      | (refine Both.mk ?_ ?_ <;> conv => whnf)
      | exact trivial
      | (refine Br.mk (fun hb => ?_) (fun hb => ?_) <;> (first | (exfalso; revert hb; decide) | ((try simp only [BL] at hb) <;> (try simp only [DL] at hb) <;> conv => whnf)))
      | (refine And.intro ?_ ?_; (focus (first | exact id | exact rfl | exact trivial | (intro hg; first | exact hg | exact rfl | (simp; done) | (simp at hg ⊢; assumption)) | omega | decide | exact is2_c _ _ _ | exact is1_c _ _ | exact isS_c _ _ | exact isB_c _ _ | exact Nat.le_refl _ | assumption | exact mulLe (by decide) (by omega) | exact mulLe2 (by decide) (by omega) (by omega) | (intros; simp only [BL] at *; omega) | (intros; (try simp only [BL] at *); (try simp only [DL] at *); omega) | (intros; simp only [BL] at *; rw [wr_id (by omega) (by omega)]; omega) | (intros; simp_all; done))); conv => whnf)
      | (refine Or.inr (And.intro rfl ?_); first | (refine congrArg intV ?_) | (refine congrArg boolV ?_) | (refine tupII ?_ ?_) | (refine tupIII ?_ ?_ ?_) | (refine tupU ?_ ?_ ?_ ?_ ?_) | exact rfl))
    · have hji : j < i := by omega
      have e1 := hwd j hji
      have e2 := hwe j hji
      rw [Int.toNat_natCast, e1]
      dsimp only
      rw [if_pos rfl]
      conv => whnf
      repeat' (first
        | (refine NilG.mk fun bn hbn => ?_; conv => whnf)
        | (refine Both.mk ?_ ?_ <;> conv => whnf)
        | exact trivial
        | (refine Br.mk (fun hb => ?_) (fun hb => ?_) <;> (first | (exfalso; revert hb; decide) | ((try simp only [BL] at hb) <;> (try simp only [DL] at hb) <;> conv => whnf)))
        | (refine And.intro ?_ ?_; (focus (first | exact id | exact rfl | exact trivial | (intro hg; first | exact hg | exact rfl | (simp; done) | (simp at hg ⊢; assumption)) | omega | decide | exact is2_c _ _ _ | exact is1_c _ _ | exact isS_c _ _ | exact isB_c _ _ | exact Nat.le_refl _ | assumption | exact mulLe (by decide) (by omega) | exact mulLe2 (by decide) (by omega) (by omega) | (intros; simp only [BL] at *; omega) | (intros; (try simp only [BL] at *); (try simp only [DL] at *); omega) | (intros; simp only [BL] at *; rw [wr_id (by omega) (by omega)]; omega) | (intros; simp_all; done))); conv => whnf)
        | (refine Or.inr (And.intro rfl ?_); first | (refine congrArg intV ?_) | (refine congrArg boolV ?_) | (refine tupII ?_ ?_) | (refine tupIII ?_ ?_ ?_) | (refine tupU ?_ ?_ ?_ ?_ ?_) | exact rfl))
      · refine ⟨j + 1, [?_, ?_, ?_, ?_, ?_], by omega, by omega, ?_⟩
        rotate_left 5
        refine Sub.of ?_ ?_ ?_
        repeat' (first | (refine And.intro ?_ ?_) | exact trivial | exact fun _ _ _ => hsc _ _ | (exact congrArg intV (by first | with_reducible rfl | with_reducible assumption)) | exact (rfl : AV.idsLt _ _ = true) | exact (rfl : _ = AV.ren _ (.own _)) | exact (rfl : _ = AV.ren _ (.fn _ _)) | exact (rfl : _ = AV.ren _ (.gh _)) | (exact congrArg intV (by assumption)) | (refine congrArg intV ((wr_id (by omega) (by omega)).trans (by omega))) | exact rfl | (simp only [Int.toNat_natCast, Int.toNat_zero, Nat.sub_zero, Nat.zero_add]; first | exact rfl | done) | exact all0 | exact fun h => Bool.noConfusion h | exact fun _ _ _ _ => rfl | omega)
        · exact fun _ _ _ => hsc _
        · intro a ha b hb1
          obtain rfl : b = 0 := by omega
          show (if a = j then iL (bsH T d w j) else iL (if a < j then bsH T d w a else 0)) = iL (if a < j + 1 then bsH T d w a else 0)
          by_cases h : a = j
          · rw [if_pos h, if_pos (by omega), h]
          · rw [if_neg h]
            by_cases h' : a < j
            · rw [if_pos h', if_pos (by omega)]
            · rw [if_neg h', if_neg (by omega)]
        · exact fun _ _ _ => hsc _
        · intro a ha b hb1
          obtain rfl : b = 0 := by omega
          show (if a = j then iL ((j : Int)) else iL (if a < j then (a : Int) else 0)) = iL (if a < j + 1 then (a : Int) else 0)
          by_cases h : a = j
          · rw [if_pos h, if_pos (by omega), h]
          · rw [if_neg h]
            by_cases h' : a < j
            · rw [if_pos h', if_pos (by omega)]
            · rw [if_neg h', if_neg (by omega)]
    · have hji : j = i := by omega
      subst hji
      refine CallG.wr [4] rfl (FnM.mono (sortHrs (cmpH hn24 hT hs hw) (by omega)) ?_)
      rintro obs r ⟨q, hq, rfl, rfl⟩
      conv => whnf
      repeat' (first
        | (refine NilG.mk fun bn hbn => ?_; conv => whnf)
        | (refine Both.mk ?_ ?_ <;> conv => whnf)
        | exact trivial
        | (refine Br.mk (fun hb => ?_) (fun hb => ?_) <;> (first | (exfalso; revert hb; decide) | ((try simp only [BL] at hb) <;> (try simp only [DL] at hb) <;> conv => whnf)))
        | (refine And.intro ?_ ?_; (focus (first | exact id | exact rfl | exact trivial | (intro hg; first | exact hg | exact rfl | (simp; done) | (simp at hg ⊢; assumption)) | omega | decide | exact is2_c _ _ _ | exact is1_c _ _ | exact isS_c _ _ | exact isB_c _ _ | exact Nat.le_refl _ | assumption | exact mulLe (by decide) (by omega) | exact mulLe2 (by decide) (by omega) (by omega) | (intros; simp only [BL] at *; omega) | (intros; (try simp only [BL] at *); (try simp only [DL] at *); omega) | (intros; simp only [BL] at *; rw [wr_id (by omega) (by omega)]; omega) | (intros; simp_all; done))); conv => whnf)
        | (refine Or.inr (And.intro rfl ?_); first | (refine congrArg intV ?_) | (refine congrArg boolV ?_) | (refine tupII ?_ ?_) | (refine tupIII ?_ ?_ ?_) | (refine tupU ?_ ?_ ?_ ?_ ?_) | exact rfl))
      have hrk : ∀ s, s < j → rkH T j w (q s) = s := fun s hs => by unfold rkH; rw [hd]; exact hq.rank hs
      have hr0 : ∀ a, a < j → 0 ≤ rkH T j w a := fun a ha => by
        obtain ⟨s, h3, rfl⟩ := hq.onto ha
        rw [hrk s h3]
        omega
      have hm : (T - S (bsH T d w) j).toNat - Int.toNat 0 = (T - S (bsH T d w) j).toNat := Nat.sub_zero _
      rw [hm]
      clear hm hs0 hwd hwe
      generalize hM : (T - S (bsH T d w) j).toNat = m
      have hmj : m ≤ j := by omega
      refine sem_loop tab_ok gamHC_ok mixed (by kernel_rfl) (O := ordHs) (fun t : Nat => ⟨[(10, .own 0), (78, .ov 1 1 0 m), (79, intV m), (80, intV t)], [.row 3 1 j false (c1 fun k => bsH T d w k + (if rkH T j w k < t then 1 else 0)), .row 3 1 j true (fun k _ => iL (q k))]⟩) (fun t => t ≤ m) (fun t => m - t) ⟨0, [?_, ?_], Nat.zero_le _, ?_⟩ fun t ht => ?_
      rotate_left 2
      · refine Sub.of ?_ ?_ ?_
        repeat' (first | (refine And.intro ?_ ?_) | exact trivial | exact fun _ _ _ => hsc _ _ | (exact congrArg intV (by first | with_reducible rfl | with_reducible assumption)) | exact (rfl : AV.idsLt _ _ = true) | exact (rfl : _ = AV.ren _ (.own _)) | exact (rfl : _ = AV.ren _ (.fn _ _)) | exact (rfl : _ = AV.ren _ (.gh _)) | (exact congrArg intV (by assumption)) | (refine congrArg intV ((wr_id (by omega) (by omega)).trans (by omega))) | exact rfl | (simp only [Int.toNat_natCast, Int.toNat_zero, Nat.sub_zero, Nat.zero_add]; first | exact rfl | done) | exact all0 | exact fun h => Bool.noConfusion h | exact fun _ _ _ _ => rfl | omega)
        · intro a ha b hb1
          obtain rfl : b = 0 := by omega
          have h9 := hr0 a ha
          show iL (if a < j then bsH T d w a else 0) = iL (bsH T d w a + if rkH T j w a < (0 : Nat) then 1 else 0)
          rw [if_pos ha, if_neg (by omega), Int.add_zero]
        · exact fun _ _ _ => hsc _
        · intro a ha b hb1
          show iL (if q a < j then (q a : Int) else 0) = iL (q a)
          rw [if_pos (hq.lt ha)]
      conv => whnf
      repeat' (first
        | (refine NilG.mk fun bn hbn => ?_; conv => whnf)
        | (refine Both.mk ?_ ?_ <;> conv => whnf)
        | exact trivial
        | (refine Br.mk (fun hb => ?_) (fun hb => ?_) <;> (first | (exfalso; revert hb; decide) | ((try simp only [BL] at hb) <;> (try simp only [DL] at hb) <;> conv => whnf)))
        | (refine And.intro ?_ ?_; (focus (first | exact id | exact rfl | exact trivial | (intro hg; first | exact hg | exact rfl | (simp; done) | (simp at hg ⊢; assumption)) | omega | decide | exact is2_c _ _ _ | exact is1_c _ _ | exact isS_c _ _ | exact isB_c _ _ | exact Nat.le_refl _ | assumption | exact mulLe (by decide) (by omega) | exact mulLe2 (by decide) (by omega) (by omega) | (intros; simp only [BL] at *; omega) | (intros; (try simp only [BL] at *); (try simp only [DL] at *); omega) | (intros; simp only [BL] at *; rw [wr_id (by omega) (by omega)]; omega) | (intros; simp_all; done))); conv => whnf)
        | (refine Or.inr (And.intro rfl ?_); first | (refine congrArg intV ?_) | (refine congrArg boolV ?_) | (refine tupII ?_ ?_) | (refine tupIII ?_ ?_ ?_) | (refine tupU ?_ ?_ ?_ ?_ ?_) | exact rfl))
      · have htm : t < m := by omega
        have hqt := hq.lt (k := t) (by omega)
        have hrt := hrk t (by omega)
        have hbt := hbs (q t) hqt
        have hv : IntKind.i64.wrap (bsH T d w (q t) + (if rkH T j w (q t) < t then 1 else 0) + 1) = bsH T d w (q t) + 1 := by
          rw [hrt, if_neg (by omega), wr_id (by omega) (by omega), Int.add_zero]
        rw [Nat.zero_add, Int.toNat_natCast]
        refine ⟨⟨by omega, by omega⟩, ?_⟩
        rw [Int.toNat_natCast]
        conv => whnf
        repeat' (first
          | (refine NilG.mk fun bn hbn => ?_; conv => whnf)
          | (refine Both.mk ?_ ?_ <;> conv => whnf)
          | exact trivial
          | (refine Br.mk (fun hb => ?_) (fun hb => ?_) <;> (first | (exfalso; revert hb; decide) | ((try simp only [BL] at hb) <;> (try simp only [DL] at hb) <;> conv => whnf)))
          | (refine And.intro ?_ ?_; (focus (first | exact id | exact rfl | exact trivial | (intro hg; first | exact hg | exact rfl | (simp; done) | (simp at hg ⊢; assumption)) | omega | decide | exact is2_c _ _ _ | exact is1_c _ _ | exact isS_c _ _ | exact isB_c _ _ | exact Nat.le_refl _ | assumption | exact mulLe (by decide) (by omega) | exact mulLe2 (by decide) (by omega) (by omega) | (intros; simp only [BL] at *; omega) | (intros; (try simp only [BL] at *); (try simp only [DL] at *); omega) | (intros; simp only [BL] at *; rw [wr_id (by omega) (by omega)]; omega) | (intros; simp_all; done))); conv => whnf)
          | (refine Or.inr (And.intro rfl ?_); first | (refine congrArg intV ?_) | (refine congrArg boolV ?_) | (refine tupII ?_ ?_) | (refine tupIII ?_ ?_ ?_) | (refine tupU ?_ ?_ ?_ ?_ ?_) | exact rfl))
        · refine ⟨t + 1, [?_, ?_], by omega, by omega, ?_⟩
          rotate_left 2
          refine Sub.of ?_ ?_ ?_
          repeat' (first | (refine And.intro ?_ ?_) | exact trivial | exact fun _ _ _ => hsc _ _ | (exact congrArg intV (by first | with_reducible rfl | with_reducible assumption)) | exact (rfl : AV.idsLt _ _ = true) | exact (rfl : _ = AV.ren _ (.own _)) | exact (rfl : _ = AV.ren _ (.fn _ _)) | exact (rfl : _ = AV.ren _ (.gh _)) | (exact congrArg intV (by assumption)) | (refine congrArg intV ((wr_id (by omega) (by omega)).trans (by omega))) | exact rfl | (simp only [Int.toNat_natCast, Int.toNat_zero, Nat.sub_zero, Nat.zero_add]; first | exact rfl | done) | exact all0 | exact fun h => Bool.noConfusion h | exact fun _ _ _ _ => rfl | omega)
          · intro a ha b hb1
            obtain rfl : b = 0 := by omega
            show (if a = q t then iL (IntKind.i64.wrap (bsH T d w (q t) + (if rkH T j w (q t) < t then 1 else 0) + 1)) else iL (bsH T d w a + (if rkH T j w a < t then 1 else 0))) = iL (bsH T d w a + (if rkH T j w a < (t + 1 : Nat) then 1 else 0))
            by_cases h : a = q t
            · rw [if_pos h, h, hv, hrt, if_pos (by omega)]
            · rw [if_neg h]
              obtain ⟨z, hz1, hz2⟩ := hq.onto ha
              have hzt : z ≠ t := fun e => h (by rw [← hz2, e])
              have hrz := hrk z hz1
              rw [hz2] at hrz
              rw [hrz]
              by_cases h' : z < t
              · rw [if_pos (by omega), if_pos (by omega)]
              · rw [if_neg (by omega), if_neg (by omega)]
          · exact fun _ _ _ => hsc _
      · have htm : t = m := by omega
        have hsp : (fun k => bsH T d w k + (if rkH T j w k < t then 1 else 0)) = spF T j w := by
          funext k
          unfold spF lfH
          rw [hd, htm, ← hM, Int.toNat_of_nonneg hlf.1]
        rw [hsp]
        exact .inr ⟨rfl, .inr ⟨hE, rfl⟩⟩
end Go.Proofs.Ytdakikgebfphmaa
