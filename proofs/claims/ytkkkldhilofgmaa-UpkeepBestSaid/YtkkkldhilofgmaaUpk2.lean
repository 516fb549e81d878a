/-
  The package upkeep: plans.
-/
import Derived.Test.YtkkkldhilofgmaaUpk
namespace Go.Proofs.Ytkkkldhilofgmaa
open Go.RowKit

/-- jobs k and i overlap -/
def lo2 (x : Nat → Int) (i k : Nat) : Int := max (x k) (x i)
def hi2 (t : Tsk) (x : Nat → Int) (i k : Nat) : Int := min (x k + t.lg k) (x i + t.lg i)
def ovE (t : Tsk) (x : Nat → Int) (i k : Nat) : Int := if lo2 x i k < hi2 t x i k ∧ (hasP t i k = true ∨ hasP t k i = true) then 11 else 0
def bsy (t : Tsk) (x : Nat → Int) (k : Nat) (d : Int) : Bool := inB d (x k) (x k + t.lg k - 1)
def bI (t : Tsk) (x : Nat → Int) (d : Int) (k : Nat) : Int := if bsy t x k d = true then 1 else 0
def fuE (t : Tsk) (x : Nat → Int) (i d : Nat) : Int := if bsy t x i d = true ∧ t.c < S (bI t x d) (i + 1) then 9 else 0
/-- the error of job i with the jobs before it -/
def wrE (t : Tsk) (x : Nat → Int) (i : Nat) : Int := if fst (ovE t x i) i ≠ 0 then fst (ovE t x i) i else fst (fuE t x i) 121
/-- day d is taken by job k and job i -/
def oI (t : Tsk) (x : Nat → Int) (i : Nat) (d : Int) (k : Nat) : Int := if lo2 x i k ≤ d ∧ d < hi2 t x i k then 1 else 0

theorem S_01 {f : Nat → Int} (h : ∀ k, 0 ≤ f k ∧ f k ≤ 1) (n : Nat) : 0 ≤ S f n ∧ S f n ≤ n := by
  have := S_le (p := f) (a := 0) (b := 1) (k := n) fun k _ => h k
  omega
theorem oI_01 (t : Tsk) (x : Nat → Int) (i : Nat) (d : Int) (k : Nat) : 0 ≤ oI t x i d k ∧ oI t x i d k ≤ 1 := by unfold oI; split <;> omega
theorem bI_01 (t : Tsk) (x : Nat → Int) (d : Int) (k : Nat) : 0 ≤ bI t x d k ∧ bI t x d k ≤ 1 := by unfold bI; split <;> omega
theorem fst_val {e : Nat → Int} {v : Int} (hv : v ≠ 0) (he : ∀ k, e k = 0 ∨ e k = v) {j : Nat} (hj : e j = v) : ∀ {n : Nat}, j < n → fst e n = v
  | n + 1, h => by
    simp only [fst]
    rcases Nat.lt_succ_iff_lt_or_eq.1 h with h' | rfl
    · rw [fst_val hv he hj h', if_pos hv]
    · rcases (show fst e j = 0 ∨ fst e j = v by
        clear h hj
        induction j with
        | zero => exact .inl rfl
        | succ j ih =>
          simp only [fst]
          rcases ih with h | h
          · rw [if_neg (fun hh => hh h)]; exact he j
          · rw [if_pos (by rw [h]; exact hv)]; exact .inr h) with h | h
      · rw [if_neg (fun hh => hh h)]; exact hj
      · rw [if_pos (by rw [h]; exact hv)]; exact h

def sPr : List AV → Sd × AV
  | [.c (.sl 2 m f), .agg [.c (.v (.int .i64 u)), .c (.v (.int .i64 v))]] => (.p (is2 m f ∧ m ≤ maxLen), boolV (decide (fidx (prB (d0 f) (d1 f) u v) m ≥ 0)))
  | _ => (.p False, .top)
def gamK2 : Gam := fun f => match f with
  | 119 => some sPr
  | _ => none
theorem gamK2_ok : GOk Try.prog gamK2 := fun f g h => by
  unfold gamK2 at h
  split at h
  · injection h with h; subst h
    intro args hs _
    unfold sPr at hs ⊢
    split at hs
    · exact (contP _ _ _ _ _ hs.2).le (Le.cons (Le1.sl hs.1) (Le.cons (Le1.refl _) Le.nil))
    · exact hs.elim
  · cases h

abbrev tB (t : Tsk) : OB := .box [.c (.sl 5 t.n (cJ t)), .c (.sl 2 t.m (c2 t.a t.b)), intV t.c]
set_option maxHeartbeats 1000000 in
theorem upWrongG (t : Tsk) (x : Nat → Int) (nx i : Nat) (hT : tskE t = 0) (hnx : i < nx) (hi : i < t.n) (hx : ∀ k, k ≤ i → 0 ≤ x k ∧ x k ≤ 60) : Fn1 Try.prog 100 [tV t, .c (.sl 1 nx (c1 x)), intV i] (intV (wrE t x i)) := by
  refine fn_of_wpx (O := lex) tab_ok gamK2_ok mixed Try.func100 (by kernel_rfl) rfl rfl rfl (by simp [Try.ntmps100]) (by kernel_rfl) ?_
  obtain ⟨hn6, hm6, hc1, hc6, hj, hp⟩ := tskE_zero hT
  have hbj : ∀ k, k < t.n → 1 ≤ t.lg k ∧ t.lg k ≤ 60 := fun k hk => by have := hj k hk; unfold badJ at this; omega
  have hmL : t.m ≤ maxLen := by unfold maxLen; omega
  have xi := hx i (Nat.le_refl _)
  have li := hbj i hi
  have e7 : IntKind.i64.wrap (x i + t.lg i) = x i + t.lg i := wr_id (by omega) (by omega)
  conv => whnf
  repeat' (first
    | (refine NilG.mk fun bn hbn hbx => ?_; conv => whnf)
    | (refine Both.mk ?_ ?_ <;> conv => whnf)
    | exact trivial
    | (refine Br.mk (fun hb => ?_) (fun hb => ?_) <;> (first | (exfalso; revert hb; decide) | ((try simp only [BL] at hb) <;> (try simp only [DL] at hb) <;> conv => whnf)))
    | (refine And.intro ?_ ?_; (focus (first | exact id | exact rfl | exact trivial | (intro hg; first | exact hg | exact rfl | (simp; done) | (simp at hg ⊢; assumption)) | omega | decide | exact is2_c _ _ _ | exact is1_c _ _ | exact isS_c _ _ | exact isB_c _ _ | exact Nat.le_refl _ | assumption | exact mulLe (by decide) (by omega) | exact mulLe2 (by decide) (by omega) (by omega) | (intros; simp only [BL] at *; omega) | (intros; (try simp only [BL] at *); (try simp only [DL] at *); omega) | (intros; simp only [BL] at *; rw [wr_id (by omega) (by omega)]; omega) | (intro h1 h2; exact Bool.and_eq_true_iff.2 ⟨h1, h2⟩) | (intros; simp_all; done))); conv => whnf)
    | (refine Or.inr (And.intro rfl ?_); first | (refine congrArg intV ?_) | (refine congrArg boolV ?_) | (refine tupII ?_ ?_) | (refine tupIII ?_ ?_ ?_) | (refine tupU ?_ ?_ ?_ ?_ ?_) | exact rfl))
  refine And.intro ⟨by kernel_rfl, rfl⟩ ?_
  conv => whnf
  repeat' (first
    | (refine NilG.mk fun bn hbn hbx => ?_; conv => whnf)
    | (refine Both.mk ?_ ?_ <;> conv => whnf)
    | exact trivial
    | (refine Br.mk (fun hb => ?_) (fun hb => ?_) <;> (first | (exfalso; revert hb; decide) | ((try simp only [BL] at hb) <;> (try simp only [DL] at hb) <;> conv => whnf)))
    | (refine And.intro ?_ ?_; (focus (first | exact id | exact rfl | exact trivial | (intro hg; first | exact hg | exact rfl | (simp; done) | (simp at hg ⊢; assumption)) | omega | decide | exact is2_c _ _ _ | exact is1_c _ _ | exact isS_c _ _ | exact isB_c _ _ | exact Nat.le_refl _ | assumption | exact mulLe (by decide) (by omega) | exact mulLe2 (by decide) (by omega) (by omega) | (intros; simp only [BL] at *; omega) | (intros; (try simp only [BL] at *); (try simp only [DL] at *); omega) | (intros; simp only [BL] at *; rw [wr_id (by omega) (by omega)]; omega) | (intro h1 h2; exact Bool.and_eq_true_iff.2 ⟨h1, h2⟩) | (intros; simp_all; done))); conv => whnf)
    | (refine Or.inr (And.intro rfl ?_); first | (refine congrArg intV ?_) | (refine congrArg boolV ?_) | (refine tupII ?_ ?_) | (refine tupIII ?_ ?_ ?_) | (refine tupU ?_ ?_ ?_ ?_ ?_) | exact rfl))
  refine sem_loop tab_ok gamK2_ok mixed (by kernel_rfl) (O := lex) (fun k : Nat => ⟨[(26, intV k), (25, intV i), (1, .c (.sl 1 nx (c1 x))), (2, intV i), (3, .lp 0 0), (7, intV (x i + t.lg i)), (8, .lp 1 0)], [tB t,   .arr 1 120 false (fun d _ => iL (S (oI t x i d) k))]⟩) (fun k => k ≤ i ∧ fst (ovE t x i) k = 0) (fun k => i - k) ⟨0, [?_, ?_], ⟨Nat.zero_le _, rfl⟩, ?_⟩ fun k hk => ?_
  rotate_left 2
  · refine Sub.of ?_ ?_ ?_
    repeat' (first | (refine And.intro ?_ ?_) | exact trivial | exact fun _ _ _ => hsc _ _ | (exact congrArg intV (by first | with_reducible rfl | with_reducible assumption)) | exact (rfl : AV.idsLt _ _ = true) | exact (rfl : _ = AV.ren _ (.own _)) | exact (rfl : _ = AV.ren _ (.fn _ _)) | exact (rfl : _ = AV.ren _ (.gh _)) | (exact congrArg intV (by assumption)) | (refine congrArg intV ((wr_id (by omega) (by omega)).trans (by omega))) | exact rfl | (simp only [Int.toNat_natCast, Int.toNat_zero, Nat.sub_zero, Nat.zero_add]; first | exact rfl | done) | exact all0 | exact fun h => Bool.noConfusion h | exact fun _ _ _ _ => rfl | omega)
  have xk := fun h : k < i => hx k (by omega)
  have lk := fun h : k < i => hbj k (by omega)
  conv => whnf
  repeat' (first
    | (refine NilG.mk fun bn hbn hbx => ?_; conv => whnf)
    | (refine Both.mk ?_ ?_ <;> conv => whnf)
    | exact trivial
    | (refine Br.mk (fun hb => ?_) (fun hb => ?_) <;> (first | (exfalso; revert hb; decide) | ((try simp only [BL] at hb) <;> (try simp only [DL] at hb) <;> conv => whnf)))
    | (refine And.intro ?_ ?_; (focus (first | exact id | exact rfl | exact trivial | (intro hg; first | exact hg | exact rfl | (simp; done) | (simp at hg ⊢; assumption)) | omega | decide | exact is2_c _ _ _ | exact is1_c _ _ | exact isS_c _ _ | exact isB_c _ _ | exact Nat.le_refl _ | assumption | exact mulLe (by decide) (by omega) | exact mulLe2 (by decide) (by omega) (by omega) | (intros; simp only [BL] at *; omega) | (intros; (try simp only [BL] at *); (try simp only [DL] at *); omega) | (intros; simp only [BL] at *; rw [wr_id (by omega) (by omega)]; omega) | (intro h1 h2; exact Bool.and_eq_true_iff.2 ⟨h1, h2⟩) | exact fun _ => ⟨is2_c _ _ _, hmL⟩ | (intros; simp_all; done))); conv => whnf)
    | (refine Or.inr (And.intro rfl ?_); first | (refine congrArg intV ?_) | (refine congrArg boolV ?_) | (refine tupII ?_ ?_) | (refine tupIII ?_ ?_ ?_) | (refine tupU ?_ ?_ ?_ ?_ ?_) | exact rfl))
  · have ek : IntKind.i64.wrap (x k + t.lg k) = x k + t.lg k := wr_id (by omega) (by omega)
    rw [ek] at hb
    have h1 : ovE t x i k = 11 := by
      unfold ovE hasP
      rw [if_pos]
      refine ⟨hb.1, ?_⟩
      simp only [decide_eq_true_eq]
      exact hb.2
    have h2 : fst (ovE t x i) i = 11 := by rw [fst_at hk.2 (by rw [h1]; decide) (by omega), h1]
    unfold wrE
    rw [if_pos (by rw [h2]; decide), h2]
  · rename_i hlt
    have hki : k < i := by omega
    have xk := hx k (by omega)
    have lk := hbj k (by omega)
    have ek : IntKind.i64.wrap (x k + t.lg k) = x k + t.lg k := wr_id (by omega) (by omega)
    rw [ek] at hb
    have h1 : ovE t x i k = 0 := by
      unfold ovE hasP
      rw [if_neg]
      rintro ⟨q1, q2⟩
      simp only [decide_eq_true_eq] at q2
      unfold lo2 hi2 at q1
      omega
    clear hb
    have e11 : min (IntKind.i64.wrap (x k + t.lg k)) (x i + t.lg i) = hi2 t x i k := by rw [ek]; rfl
    refine sem_loop tab_ok gamK2_ok mixed (by kernel_rfl) (O := lex) (fun z : Int => ⟨[(26, intV k), (25, intV i), (1, .c (.sl 1 nx (c1 x))), (2, intV i), (3, .lp 0 0), (7, intV (x i + t.lg i)), (8, .lp 1 0), (11, intV (hi2 t x i k)), (12, intV z)], [tB t, .arr 1 120 false (fun d _ => iL (S (oI t x i d) k + if lo2 x i k ≤ d ∧ d < z then 1 else 0))]⟩) (fun z => lo2 x i k ≤ z ∧ (z ≤ hi2 t x i k ∨ z = lo2 x i k)) (fun z => (hi2 t x i k - z).toNat) ⟨lo2 x i k, [?_, ?_], ⟨Int.le_refl _, .inr rfl⟩, ?_⟩ fun z hz => ?_
    rotate_left 2
    · refine Sub.of ?_ ?_ ?_
      repeat' (first | (refine And.intro ?_ ?_) | exact trivial | exact fun _ _ _ => hsc _ _ | (exact congrArg intV (by first | with_reducible rfl | with_reducible assumption)) | exact (rfl : AV.idsLt _ _ = true) | exact (rfl : _ = AV.ren _ (.own _)) | exact (rfl : _ = AV.ren _ (.fn _ _)) | exact (rfl : _ = AV.ren _ (.gh _)) | (exact congrArg intV (by assumption)) | (refine congrArg intV ((wr_id (by omega) (by omega)).trans (by omega))) | exact rfl | (simp only [Int.toNat_natCast, Int.toNat_zero, Nat.sub_zero, Nat.zero_add]; first | exact rfl | done) | exact all0 | exact fun h => Bool.noConfusion h | exact fun _ _ _ _ => rfl | omega)
      · intro d _ c _
        show iL _ = iL (_ + _)
        rw [if_neg (by omega), Int.add_zero]
    have hlo : 0 ≤ lo2 x i k := by unfold lo2; omega
    have hhi : hi2 t x i k ≤ 120 := by unfold hi2; omega
    have hS := fun d => S_01 (oI_01 t x i d) k
    have hSz := hS z
    conv => whnf
    repeat' (first
      | (refine NilG.mk fun bn hbn hbx => ?_; conv => whnf)
      | (refine Both.mk ?_ ?_ <;> conv => whnf)
      | exact trivial
      | (refine Br.mk (fun hb => ?_) (fun hb => ?_) <;> (first | (exfalso; revert hb; decide) | ((try simp only [BL] at hb) <;> (try simp only [DL] at hb) <;> conv => whnf)))
      | (refine And.intro ?_ ?_; (focus (first | exact id | exact rfl | exact trivial | (intro hg; first | exact hg | exact rfl | (simp; done) | (simp at hg ⊢; assumption)) | omega | decide | exact is2_c _ _ _ | exact is1_c _ _ | exact isS_c _ _ | exact isB_c _ _ | exact Nat.le_refl _ | assumption | exact mulLe (by decide) (by omega) | exact mulLe2 (by decide) (by omega) (by omega) | (intros; simp only [BL] at *; omega) | (intros; (try simp only [BL] at *); (try simp only [DL] at *); omega) | (intros; simp only [BL] at *; rw [wr_id (by omega) (by omega)]; omega) | (intro h1 h2; exact Bool.and_eq_true_iff.2 ⟨h1, h2⟩) | (intros; simp_all; done))); conv => whnf)
      | (refine Or.inr (And.intro rfl ?_); first | (refine congrArg intV ?_) | (refine congrArg boolV ?_) | (refine tupII ?_ ?_) | (refine tupIII ?_ ?_ ?_) | (refine tupU ?_ ?_ ?_ ?_ ?_) | exact rfl))
    · refine ⟨z + 1, [?_, ?_], ⟨by omega, .inl (by omega)⟩, by omega, ?_⟩
      rotate_left 2
      refine Sub.of ?_ ?_ ?_
      repeat' (first | (refine And.intro ?_ ?_) | exact trivial | exact fun _ _ _ => hsc _ _ | (exact congrArg intV (by first | with_reducible rfl | with_reducible assumption)) | exact (rfl : AV.idsLt _ _ = true) | exact (rfl : _ = AV.ren _ (.own _)) | exact (rfl : _ = AV.ren _ (.fn _ _)) | exact (rfl : _ = AV.ren _ (.gh _)) | (exact congrArg intV (by assumption)) | (refine congrArg intV ((wr_id (by omega) (by omega)).trans (by omega))) | exact rfl | (simp only [Int.toNat_natCast, Int.toNat_zero, Nat.sub_zero, Nat.zero_add]; first | exact rfl | done) | exact all0 | exact fun h => Bool.noConfusion h | exact fun _ _ _ _ => rfl | omega)
      · intro d hd c hc
        obtain rfl : c = 0 := by omega
        by_cases e1 : d = z.toNat
        · have dz : (d : Int) = z := by omega
          refine (if_pos e1).trans ((if_pos ⟨Nat.le_refl _, Nat.zero_lt_one⟩).trans (congrArg (fun y => L.v (.int .i64 y)) ?_))
          show IntKind.i64.wrap ((S (oI t x i (z.toNat : Int)) k + if lo2 x i k ≤ (z.toNat : Int) ∧ (z.toNat : Int) < z then 1 else 0) + 1) = S (oI t x i d) k + if lo2 x i k ≤ (d : Int) ∧ (d : Int) < z + 1 then 1 else 0
          rw [← e1, dz, if_neg (by omega), if_pos (by omega)]
          exact (wr_id (by omega) (by omega)).trans (by omega)
        · refine (if_neg e1).trans (congrArg (fun y => L.v (.int .i64 y)) ?_)
          show S (oI t x i d) k + (if lo2 x i k ≤ (d : Int) ∧ (d : Int) < z then 1 else 0) = S (oI t x i d) k + if lo2 x i k ≤ (d : Int) ∧ (d : Int) < z + 1 then 1 else 0
          congr 1
          by_cases e2 : lo2 x i k ≤ (d : Int) ∧ (d : Int) < z
          · rw [if_pos e2, if_pos (by omega)]
          · rw [if_neg e2, if_neg (by omega)]
    · have hzz : z = max (lo2 x i k) (hi2 t x i k) := by omega
      refine ⟨k + 1, [?_, ?_], ⟨by omega, fst_next hk.2 h1⟩, by omega, ?_⟩
      rotate_left 2
      refine Sub.of ?_ ?_ ?_
      repeat' (first | (refine And.intro ?_ ?_) | exact trivial | exact fun _ _ _ => hsc _ _ | (exact congrArg intV (by first | with_reducible rfl | with_reducible assumption)) | exact (rfl : AV.idsLt _ _ = true) | exact (rfl : _ = AV.ren _ (.own _)) | exact (rfl : _ = AV.ren _ (.fn _ _)) | exact (rfl : _ = AV.ren _ (.gh _)) | (exact congrArg intV (by assumption)) | (refine congrArg intV ((wr_id (by omega) (by omega)).trans (by omega))) | exact rfl | (simp only [Int.toNat_natCast, Int.toNat_zero, Nat.sub_zero, Nat.zero_add]; first | exact rfl | done) | exact all0 | exact fun h => Bool.noConfusion h | exact fun _ _ _ _ => rfl | omega)
      · intro d hd c hc
        refine congrArg (fun y => L.v (.int .i64 y)) ?_
        show S (oI t x i d) k + (if lo2 x i k ≤ (d : Int) ∧ (d : Int) < z then 1 else 0) = S (oI t x i d) k + oI t x i d k
        congr 1
        unfold oI
        by_cases e2 : lo2 x i k ≤ (d : Int) ∧ (d : Int) < z
        · rw [if_pos e2, if_pos (by omega)]
        · rw [if_neg e2, if_neg (by omega)]
  · have hki : k = i := by omega
    have hE0 : fst (ovE t x i) i = 0 := by have := hk.2; rwa [hki] at this
    have hE : wrE t x i = fst (fuE t x i) 121 := by unfold wrE; rw [if_neg (fun h => h hE0)]
    have hS := fun d => S_01 (oI_01 t x i d) i
    have hfu : ∀ d : Nat, x i ≤ d → (d : Int) < x i + t.lg i → (fuE t x i d = 9 ↔ t.c < S (oI t x i d) i + 1) := fun d d1 d2 => by
      have e1 : S (bI t x d) (i + 1) = S (oI t x i d) i + 1 := by
        simp only [S]
        congr 1
        · exact S_congr fun k hk => by
            unfold bI oI bsy inB lo2 hi2
            simp only [BL]
            have := hbj k (by omega)
            congr 1
            rw [eq_iff_iff]
            omega
        · unfold bI bsy inB
          simp only [BL]
          rw [if_pos (by omega)]
      unfold fuE
      rw [e1]
      have hb : bsy t x i d = true := by unfold bsy inB; simp only [BL]; omega
      simp only [hb, true_and]
      split <;> simp_all
    have hvals : ∀ d, fuE t x i d = 0 ∨ fuE t x i d = 9 := fun d => by unfold fuE; split <;> simp
    clear hb
    refine sem_loop tab_ok gamK2_ok mixed (by kernel_rfl) (O := lex) (fun z : Int => ⟨[(3, .lp 0 0), (7, intV (x i + t.lg i)), (8, .lp 1 0), (13, intV z)], [tB t, .arr 1 120 false (fun d _ => iL (S (oI t x i d) i))]⟩) (fun z => x i ≤ z ∧ z ≤ x i + t.lg i ∧ ∀ d : Nat, x i ≤ d → (d : Int) < z → fuE t x i d = 0) (fun z => (x i + t.lg i - z).toNat) ⟨x i, [?_, ?_], ⟨Int.le_refl _, by omega, fun d d1 d2 => by omega⟩, ?_⟩ fun z hz => ?_
    rotate_left 2
    · refine Sub.of ?_ ?_ ?_
      repeat' (first | (refine And.intro ?_ ?_) | exact trivial | exact fun _ _ _ => hsc _ _ | (exact congrArg intV (by first | with_reducible rfl | with_reducible assumption)) | exact (rfl : AV.idsLt _ _ = true) | exact (rfl : _ = AV.ren _ (.own _)) | exact (rfl : _ = AV.ren _ (.fn _ _)) | exact (rfl : _ = AV.ren _ (.gh _)) | (exact congrArg intV (by assumption)) | (refine congrArg intV ((wr_id (by omega) (by omega)).trans (by omega))) | exact rfl | (simp only [Int.toNat_natCast, Int.toNat_zero, Nat.sub_zero, Nat.zero_add]; first | exact rfl | done) | exact all0 | exact fun h => Bool.noConfusion h | exact fun _ _ _ _ => rfl | omega)
      · rw [hki]
        exact fun _ _ _ _ => rfl
    have hSz := hS z
    conv => whnf
    repeat' (first
      | (refine NilG.mk fun bn hbn hbx => ?_; conv => whnf)
      | (refine Both.mk ?_ ?_ <;> conv => whnf)
      | exact trivial
      | (refine Br.mk (fun hb => ?_) (fun hb => ?_) <;> (first | (exfalso; revert hb; decide) | ((try simp only [BL] at hb) <;> (try simp only [DL] at hb) <;> conv => whnf)))
      | (refine And.intro ?_ ?_; (focus (first | exact id | exact rfl | exact trivial | (intro hg; first | exact hg | exact rfl | (simp; done) | (simp at hg ⊢; assumption)) | omega | decide | exact is2_c _ _ _ | exact is1_c _ _ | exact isS_c _ _ | exact isB_c _ _ | exact Nat.le_refl _ | assumption | exact mulLe (by decide) (by omega) | exact mulLe2 (by decide) (by omega) (by omega) | (intros; simp only [BL] at *; omega) | (intros; (try simp only [BL] at *); (try simp only [DL] at *); omega) | (intros; simp only [BL] at *; rw [wr_id (by omega) (by omega)]; omega) | (intro h1 h2; exact Bool.and_eq_true_iff.2 ⟨h1, h2⟩) | (intros; simp_all; done))); conv => whnf)
      | (refine Or.inr (And.intro rfl ?_); first | (refine congrArg intV ?_) | (refine congrArg boolV ?_) | (refine tupII ?_ ?_) | (refine tupIII ?_ ?_ ?_) | (refine tupU ?_ ?_ ?_ ?_ ?_) | exact rfl))
    · have hzi : z < x i + t.lg i := by omega
      have hz0 : ((z.toNat : Nat) : Int) = z := by omega
      rw [hz0, wr_id (by omega) (by omega)] at hb
      have h9 : fuE t x i z.toNat = 9 := (hfu z.toNat (by omega) (by omega)).2 (by rw [hz0]; omega)
      rw [hE]
      exact (fst_val (by decide) hvals h9 (by omega)).symm
    · rename_i hzi
      have hz0 : ((z.toNat : Nat) : Int) = z := by omega
      rw [hz0, wr_id (by omega) (by omega)] at hb
      have h0 : fuE t x i z.toNat = 0 := by
        rcases hvals z.toNat with h | h
        · exact h
        · have := (hfu z.toNat (by omega) (by omega)).1 h
          rw [hz0] at this
          omega
      refine ⟨z + 1, [?_, ?_], ⟨by omega, by omega, fun d d1 d2 => if e : d = z.toNat then by rw [e]; exact h0 else hz.2.2 d d1 (by omega)⟩, by omega, ?_⟩
      rotate_left 2
      refine Sub.of ?_ ?_ ?_
      repeat' (first | (refine And.intro ?_ ?_) | exact trivial | exact fun _ _ _ => hsc _ _ | (exact congrArg intV (by first | with_reducible rfl | with_reducible assumption)) | exact (rfl : AV.idsLt _ _ = true) | exact (rfl : _ = AV.ren _ (.own _)) | exact (rfl : _ = AV.ren _ (.fn _ _)) | exact (rfl : _ = AV.ren _ (.gh _)) | (exact congrArg intV (by assumption)) | (refine congrArg intV ((wr_id (by omega) (by omega)).trans (by omega))) | exact rfl | (simp only [Int.toNat_natCast, Int.toNat_zero, Nat.sub_zero, Nat.zero_add]; first | exact rfl | done) | exact all0 | exact fun h => Bool.noConfusion h | exact fun _ _ _ _ => rfl | omega)
    · rw [hE]
      refine (fst_of fun d hd => ?_).symm
      by_cases e : x i ≤ d ∧ (d : Int) < z
      · exact hz.2.2 d e.1 e.2
      · unfold fuE
        rw [if_neg]
        rintro ⟨q1, _⟩
        simp only [bsy, inB, BL] at q1
        omega
theorem upWrong (t : Tsk) (x : Nat → Int) (nx i : Nat) (hT : tskE t = 0) (hnx : nx = t.n) (hi : i < t.n) (hx : ∀ k, k ≤ i → 0 ≤ x k ∧ x k ≤ 60) : Fn1 Try.prog 100 [tV t, .c (.sl 1 nx (c1 x)), intV i] (intV (wrE t x i)) := upWrongG t x nx i hT (by omega) hi hx
end Go.Proofs.Ytkkkldhilofgmaa
