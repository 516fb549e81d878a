/-
  ConvexSums holds: Add and Convolve have the values of the definitions, whatever the input.
-/
import Derived.Test.YtkkkldhilofgmaaCvxT
namespace Go.Proofs.Ytkkkldhilofgmaa
open Go.RowKit Go.ChangeShapes Go.WideShapes

/-- the pieces of both functions: they may be read early or late -/
def ordCS : Ord := fun id => if id = 11 then some (.go 1 (.go 4 (.go 8 (.fork (.alt 0 (.go 2 (.fork (.alt 3 (.go 5 (.go 6 (.go 7 (.done)))) (.alt 5 (.go 3 (.go 6 (.go 7 (.done)))) (.none))))) (.alt 2 (.fork (.alt 0 (.fork (.alt 3 (.go 5 (.go 6 (.go 7 (.done)))) (.alt 5 (.go 3 (.go 6 (.go 7 (.done)))) (.none)))) (.alt 5 (.go 0 (.go 3 (.go 6 (.go 7 (.done))))) (.none)))) (.alt 5 (.fork (.alt 0 (.go 2 (.go 3 (.go 6 (.go 7 (.done))))) (.alt 2 (.go 0 (.go 3 (.go 6 (.go 7 (.done))))) (.none)))) (.none)))))))) else if id = 18 then some (.go 0 (.fork (.alt 1 (.go 2 (.go 3 (.go 4 (.go 5 (.done))))) (.alt 2 (.go 1 (.go 3 (.go 4 (.go 5 (.done))))) (.none))))) else none

theorem LoopG.sub {P : Program} {N : Nat} {c : Code} {S S' : AS} {K : Ex → AS → Prop} (h : LoopG P N c S' K) (h0 : ∃ (x : Nat) (π : List Nat), True ∧ 0 < 1 ∧ Sub π S S') : LoopG P N c S K := by
  obtain ⟨_, π, _, _, hs⟩ := h0
  exact ⟨fun w0 I0 σ I a w hd hN hr => h.sem w0 I0 _ I a w hd hN (hr.sub hs)⟩
theorem zPc : ∀ u : Value, u ∈ e47.zero.cells.toList → u.oneCell' = true := by decide
structure Kept (A : Prop) : Prop where
  v : A
theorem shareP (B : Prop) {A G : Prop} (h : Kept (B → A) → G) (a : B → A) : G := h ⟨a⟩
theorem share {A G : Prop} (h : Kept A → G) (a : A) : G := h ⟨a⟩
theorem cvS_yes {X Y : Nat → Int} {ny k i : Nat} {w w0 z : Int} (hb : (z ≥ 0 ∧ z < (ny : Int)) ∧ ((cvS X Y ny k i).1 = true ∨ w < if k < k then w0 else if True then (cvS X Y ny k i).2 else 0)) (e9 : z = (k : Int) - i) (k3 : i ≤ k → w = X i + Y (k - i)) : i ≤ k ∧ cvS X Y ny k (i + 1) = (false, X i + Y (k - i)) := by
  have hik : i ≤ k := by omega
  rw [if_neg (Nat.lt_irrefl k), if_pos trivial, k3 hik] at hb
  exact ⟨hik, if_pos ⟨hik, by omega, hb.2⟩⟩
theorem cvS_no {X Y : Nat → Int} {ny k i : Nat} {w w0 z : Int} (hb : (¬ z ≥ 0 ∨ ¬ z < (ny : Int)) ∨ ((cvS X Y ny k i).1 = false ∧ ¬ w < if k < k then w0 else if True then (cvS X Y ny k i).2 else 0)) (e9 : z = (k : Int) - i) (k3 : i ≤ k → w = X i + Y (k - i)) : cvS X Y ny k (i + 1) = cvS X Y ny k i := by
  rw [if_neg (Nat.lt_irrefl k), if_pos trivial] at hb
  refine if_neg fun h => ?_
  rw [k3 h.1] at hb
  rcases hb with hb | ⟨h1, h2⟩
  · omega
  · rcases h.2.2 with h3 | h3
    · rw [h1] at h3; cases h3
    · exact h2 h3
set_option maxHeartbeats 8000000 in
theorem csLaw (lo v : Int) (n : Nat) (p q : Nat → Int) (lo' v' : Int) (n' : Nat) (p' q' : Nat → Int) (hn : n ≤ maxLen) (hn' : n' ≤ maxLen) : Fn1 Try.prog 4 [cxV lo v n p q, cxV lo' v' n' p' q'] (boolV true) := by
  refine fn_of_wpx (O := ordCS) tab_ok gamXS_ok mixed Try.func4 (by kernel_rfl) rfl rfl rfl (by simp [Try.ntmps4]) (by kernel_rfl) ?_
  conv => whnf
  repeat' (first
    | (refine NilG.mk fun bn hbn => ?_; conv => whnf)
    | (refine Both.mk ?_ ?_ <;> conv => whnf)
    | exact trivial
    | (refine Br.mk (fun hb => ?_) (fun hb => ?_) <;> (first | (exfalso; revert hb; decide) | ((try simp only [BL] at hb) <;> (try simp only [DL] at hb) <;> conv => whnf)))
    | (refine And.intro ?_ ?_; (focus (first | exact id | exact rfl | exact trivial | (intro hg; first | exact hg | exact rfl | (simp; done) | (simp at hg ⊢; assumption)) | omega | decide | exact is2_c _ _ _ | exact is1_c _ _ | exact isS_c _ _ | exact isB_c _ _ | exact Nat.le_refl _ | assumption | exact mulLe (by decide) (by omega) | exact mulLe2 (by decide) (by omega) (by omega) | (intros; simp only [BL] at *; omega) | (intros; (try simp only [BL] at *); (try simp only [DL] at *); omega) | (intros; simp only [BL] at *; rw [wr_id (by omega) (by omega)]; omega) | (intro h1 h2; exact Bool.and_eq_true_iff.2 ⟨h1, h2⟩) | (intros; simp_all; done))); conv => whnf)
    | (refine Or.inr (And.intro rfl ?_); first | (refine congrArg intV ?_) | (refine congrArg boolV ?_) | (refine tupII ?_ ?_) | (refine tupIII ?_ ?_ ?_) | (refine tupU ?_ ?_ ?_ ?_ ?_) | exact rfl))
  refine CallG.mk (Fn.mono (addR lo v n p q lo' v' n' p' q' hn hn') ?_)
  rintro obs r ⟨rfl, e, la, wa, na, pa, qa, rfl, hA⟩
  conv => whnf
  repeat' (first
    | (refine NilG.mk fun bn hbn => ?_; conv => whnf)
    | (refine Both.mk ?_ ?_ <;> conv => whnf)
    | exact trivial
    | (refine Br.mk (fun hb => ?_) (fun hb => ?_) <;> (first | (exfalso; revert hb; decide) | ((try simp only [BL] at hb) <;> (try simp only [DL] at hb) <;> conv => whnf)))
    | (refine And.intro ?_ ?_; (focus (first | exact id | exact rfl | exact trivial | (intro hg; first | exact hg | exact rfl | (simp; done) | (simp at hg ⊢; assumption)) | omega | decide | exact is2_c _ _ _ | exact is1_c _ _ | exact isS_c _ _ | exact isB_c _ _ | exact Nat.le_refl _ | assumption | exact mulLe (by decide) (by omega) | exact mulLe2 (by decide) (by omega) (by omega) | (intros; simp only [BL] at *; omega) | (intros; (try simp only [BL] at *); (try simp only [DL] at *); omega) | (intros; simp only [BL] at *; rw [wr_id (by omega) (by omega)]; omega) | (intro h1 h2; exact Bool.and_eq_true_iff.2 ⟨h1, h2⟩) | (intros; simp_all; done))); conv => whnf)
    | (refine Or.inr (And.intro rfl ?_); first | (refine congrArg intV ?_) | (refine congrArg boolV ?_) | (refine tupII ?_ ?_) | (refine tupIII ?_ ?_ ?_) | (refine tupU ?_ ?_ ?_ ?_ ?_) | exact rfl))
  refine CallG.mk (Fn.mono (convR lo v n p q lo' v' n' p' q' hn hn') ?_)
  rintro obs r ⟨rfl, h, lc, wc, nc, pc, qc, rfl, hC⟩
  have hE : cx2E lo v n p q lo' v' n' p' q' = if cxE lo v n p q ≠ 0 then cxE lo v n p q else cxE lo' v' n' p' q' := rfl
  have hz : IntKind.i64.wrap (((0 : Nat) : Int) + ((0 : Nat) : Int)) = 0 := by decide
  by_cases h1 : cxE lo v n p q = 0
  rotate_left
  · have hE : cx2E lo v n p q lo' v' n' p' q' = cxE lo v n p q := if_pos h1
    obtain ⟨a1, a2⟩ := hA.1 (by rw [hE]; exact h1)
    obtain ⟨c1', c2'⟩ := hC.1 (by rw [hE]; exact h1)
    conv => whnf
    repeat' (first
      | (refine NilG.mk fun bn hbn => ?_; conv => whnf)
      | (refine Both.mk ?_ ?_ <;> conv => whnf)
      | exact trivial
      | (refine Br.mk (fun hb => ?_) (fun hb => ?_) <;> (first | (exfalso; revert hb; decide) | ((try simp only [BL] at hb) <;> (try simp only [DL] at hb) <;> conv => whnf)))
      | (refine And.intro ?_ ?_; (focus (first | exact id | exact rfl | exact trivial | (intro hg; first | exact hg | exact rfl | (simp; done) | (simp at hg ⊢; assumption)) | omega | decide | exact is2_c _ _ _ | exact is1_c _ _ | exact isS_c _ _ | exact isB_c _ _ | exact Nat.le_refl _ | assumption | exact mulLe (by decide) (by omega) | exact mulLe2 (by decide) (by omega) (by omega) | (intros; simp only [BL] at *; omega) | (intros; (try simp only [BL] at *); (try simp only [DL] at *); omega) | (intros; simp only [BL] at *; rw [wr_id (by omega) (by omega)]; omega) | (intro h1 h2; exact Bool.and_eq_true_iff.2 ⟨h1, h2⟩) | first | exact ⟨is2_c _ _ _, hn⟩ | exact ⟨is2_c _ _ _, hn'⟩ | (intros; simp_all; done))); conv => whnf)
      | (refine Or.inr (And.intro rfl ?_); first | (refine congrArg intV ?_) | (refine congrArg boolV ?_) | (refine tupII ?_ ?_) | (refine tupIII ?_ ?_ ?_) | (refine tupU ?_ ?_ ?_ ?_ ?_) | exact rfl))
    all_goals first | exact absurd (by assumption) h1 | skip
    rw [a1, a2, c1', c2', hE, hz]
    show (cxE lo v n p q == cxE lo v n p q && cxE lo v n p q == cxE lo v n p q && (0 : Int) == 0) = true
    simp
  by_cases h2 : cxE lo' v' n' p' q' = 0
  rotate_left
  · have hE : cx2E lo v n p q lo' v' n' p' q' = cxE lo' v' n' p' q' := if_neg (fun h => h h1)
    obtain ⟨a1, a2⟩ := hA.1 (by rw [hE]; exact h2)
    obtain ⟨c1', c2'⟩ := hC.1 (by rw [hE]; exact h2)
    conv => whnf
    repeat' (first
      | (refine NilG.mk fun bn hbn => ?_; conv => whnf)
      | (refine Both.mk ?_ ?_ <;> conv => whnf)
      | exact trivial
      | (refine Br.mk (fun hb => ?_) (fun hb => ?_) <;> (first | (exfalso; revert hb; decide) | ((try simp only [BL] at hb) <;> (try simp only [DL] at hb) <;> conv => whnf)))
      | (refine And.intro ?_ ?_; (focus (first | exact id | exact rfl | exact trivial | (intro hg; first | exact hg | exact rfl | (simp; done) | (simp at hg ⊢; assumption)) | omega | decide | exact is2_c _ _ _ | exact is1_c _ _ | exact isS_c _ _ | exact isB_c _ _ | exact Nat.le_refl _ | assumption | exact mulLe (by decide) (by omega) | exact mulLe2 (by decide) (by omega) (by omega) | (intros; simp only [BL] at *; omega) | (intros; (try simp only [BL] at *); (try simp only [DL] at *); omega) | (intros; simp only [BL] at *; rw [wr_id (by omega) (by omega)]; omega) | (intro h1 h2; exact Bool.and_eq_true_iff.2 ⟨h1, h2⟩) | first | exact ⟨is2_c _ _ _, hn⟩ | exact ⟨is2_c _ _ _, hn'⟩ | (intros; simp_all; done))); conv => whnf)
      | (refine Or.inr (And.intro rfl ?_); first | (refine congrArg intV ?_) | (refine congrArg boolV ?_) | (refine tupII ?_ ?_) | (refine tupIII ?_ ?_ ?_) | (refine tupU ?_ ?_ ?_ ?_ ?_) | exact rfl))
    all_goals first | exact absurd (by assumption) h2 | exact absurd h1 (by assumption) | skip
    rw [a1, a2, c1', c2', hE, hz]
    show (cxE lo' v' n' p' q' == cxE lo' v' n' p' q' && cxE lo' v' n' p' q' == cxE lo' v' n' p' q' && (0 : Int) == 0) = true
    simp
  have ok1 := cxE_zero h1
  have ok2 := cxE_zero h2
  have hn64 := ok1.1
  have hn64' := ok2.1
  have hE0 : cx2E lo v n p q lo' v' n' p' q' = 0 := (if_neg (fun h => h h1)).trans h2
  replace hA := hA.2 hE0
  replace hC := hC.2 hE0
  apply share
  · intro key
    conv => whnf
    repeat' (first
      | (refine NilG.mk fun bn hbn => ?_; conv => whnf)
      | (refine Both.mk ?_ ?_ <;> conv => whnf)
      | exact trivial
      | (refine Br.mk (fun hb => ?_) (fun hb => ?_) <;> (first | (exfalso; revert hb; decide) | ((try simp only [BL] at hb) <;> (try simp only [DL] at hb) <;> conv => whnf)))
      | (refine And.intro ?_ ?_; (focus (first | exact id | exact rfl | exact trivial | (intro hg; first | exact hg | exact rfl | (simp; done) | (simp at hg ⊢; assumption)) | omega | decide | exact is2_c _ _ _ | exact is1_c _ _ | exact isS_c _ _ | exact isB_c _ _ | exact Nat.le_refl _ | assumption | exact mulLe (by decide) (by omega) | exact mulLe2 (by decide) (by omega) (by omega) | (intros; simp only [BL] at *; omega) | (intros; (try simp only [BL] at *); (try simp only [DL] at *); omega) | (intros; simp only [BL] at *; rw [wr_id (by omega) (by omega)]; omega) | (intro h1 h2; exact Bool.and_eq_true_iff.2 ⟨h1, h2⟩) | first | exact ⟨is2_c _ _ _, hn⟩ | exact ⟨is2_c _ _ _, hn'⟩ | (intros; simp_all; done))); conv => whnf)
      | (refine Or.inr (And.intro rfl ?_); first | (refine congrArg intV ?_) | (refine congrArg boolV ?_) | (refine tupII ?_ ?_) | (refine tupIII ?_ ?_ ?_) | (refine tupU ?_ ?_ ?_ ?_ ?_) | exact rfl))
    all_goals first | exact absurd (by assumption) h1 | exact absurd h1 (by assumption) | exact absurd h2 (by assumption) | skip
    iterate 7
      · refine LoopG.sub (S' := ⟨[(2, .lp 0 0), (3, .lp 1 0), (5, .lp 2 0), (6, intV e), (7, .lp 3 0), (8, intV h), (10, intV 0), (70, .own 4), (71, intV ((n + n' : Nat) : Int)), (72, intV 0)], [.box [intV lo, intV v, .c (.sl 2 n (c2 p q))], .box [intV lo', intV v', .c (.sl 2 n' (c2 p' q'))], .box [intV la, intV wa, .c (.sl 2 na (c2 pa qa))], .box [intV lc, intV wc, .c (.sl 2 nc (c2 pc qc))], .row 47 2 (n + n') false (c2 (cat n p p') (cat n q q'))]⟩) key.v ?_
        have e5 : 0 + n + n' = n + n' := by omega
        have e6 : ((0 + n + n' : Nat) : Int) = ((n + n' : Nat) : Int) := by omega
        refine ⟨0, [?_, ?_, ?_, ?_, ?_], trivial, by decide, ?_⟩
        rotate_left 5
        refine Sub.of ?_ ?_ ?_
        repeat' (first | (refine And.intro ?_ ?_) | exact trivial | exact fun _ _ _ => hsc _ _ | (exact congrArg intV (by first | with_reducible rfl | with_reducible assumption)) | exact (rfl : AV.idsLt _ _ = true) | exact (rfl : _ = AV.ren _ (.own _)) | exact (rfl : _ = AV.ren _ (.fn _ _)) | exact (rfl : _ = AV.ren _ (.gh _)) | (exact congrArg intV (by assumption)) | (refine congrArg intV ((wr_id (by omega) (by omega)).trans (by omega))) | exact rfl | (simp only [Int.toNat_natCast, Int.toNat_zero, Nat.sub_zero, Nat.zero_add]; first | exact rfl | done) | exact all0 | exact fun h => Bool.noConfusion h | exact fun _ _ _ _ => rfl | omega)
        intro a ha b hb9
        match b, hb9 with
        | 0, _ =>
          show (if a < 0 + n then (if a < 0 then L.v undef else iL (p (a - 0))) else iL (p' (a - (0 + n)))) = iL (cat n p p' a)
          unfold cat
          rw [Nat.zero_add, Nat.sub_zero, if_neg (Nat.not_lt_zero a)]
          split <;> rfl
        | 1, _ =>
          show (if a < 0 + n then (if a < 0 then L.v undef else iL (q (a - 0))) else iL (q' (a - (0 + n)))) = iL (cat n q q' a)
          unfold cat
          rw [Nat.zero_add, Nat.sub_zero, if_neg (Nat.not_lt_zero a)]
          split <;> rfl
  · have hb1 := ok1.2
    have hb2 := ok2.2
    have hS1 := ok1.sS (Nat.le_refl n)
    have hS2 := ok2.sS (Nat.le_refl n')
    have hcp : ∀ i, i < n + n' → 1 ≤ cat n p p' i ∧ cat n p p' i ≤ 2000000 := fun i hi => by
      unfold cat
      split
      · rename_i h; have := ok1.2.2.2.2.2.1 i h; omega
      · have := ok2.2.2.2.2.2.1 (i - n) (by omega); omega
    have hcs : S (cat n p p') (n + n') = S p n + S p' n' := by
      rw [S_add]
      congr 1
      · exact S_congr fun k hk => if_pos hk
      · exact S_congr fun k _ => by
          unfold cat
          rw [if_neg (by omega), Nat.add_sub_cancel_left]
    have hz47 := zPc
    refine sem_loop tab_ok gamXS_ok mixed (by kernel_rfl) (O := ordCS) (fun i : Nat => ⟨[(2, .lp 0 0), (3, .lp 1 0), (5, .lp 2 0), (6, intV e), (7, .lp 3 0), (8, intV h), (10, intV (S (cat n p p') i)), (70, .own 4), (71, intV ((n + n' : Nat) : Int)), (72, intV i)], [.box [intV lo, intV v, .c (.sl 2 n (c2 p q))], .box [intV lo', intV v', .c (.sl 2 n' (c2 p' q'))], .box [intV la, intV wa, .c (.sl 2 na (c2 pa qa))], .box [intV lc, intV wc, .c (.sl 2 nc (c2 pc qc))], .row 47 2 (n + n') false (c2 (cat n p p') (cat n q q'))]⟩) (fun i => i ≤ n + n') (fun i => n + n' - i) ⟨0, [?_, ?_, ?_, ?_, ?_], Nat.zero_le _, ?_⟩ fun i hi => ?_
    rotate_left 5
    · refine Sub.of ?_ ?_ ?_
      repeat' (first | (refine And.intro ?_ ?_) | exact trivial | exact fun _ _ _ => hsc _ _ | (exact congrArg intV (by first | with_reducible rfl | with_reducible assumption)) | exact (rfl : AV.idsLt _ _ = true) | exact (rfl : _ = AV.ren _ (.own _)) | exact (rfl : _ = AV.ren _ (.fn _ _)) | exact (rfl : _ = AV.ren _ (.gh _)) | (exact congrArg intV (by assumption)) | (refine congrArg intV ((wr_id (by omega) (by omega)).trans (by omega))) | exact rfl | (simp only [Int.toNat_natCast, Int.toNat_zero, Nat.sub_zero, Nat.zero_add]; first | exact rfl | done) | exact all0 | exact fun h => Bool.noConfusion h | exact fun _ _ _ _ => rfl | omega)
    have hSi := S_le (p := cat n p p') (a := 1) (b := 2000000) (k := i) fun j hj => hcp j (by omega)
    apply shareP (S (cat n p p') i ≤ 60 ∧ i = n + n')
    · intro key
      conv => whnf
      repeat' (first
        | (refine NilG.mk fun bn hbn => ?_; conv => whnf)
        | (refine Both.mk ?_ ?_ <;> conv => whnf)
        | exact trivial
        | (refine Br.mk (fun hb => ?_) (fun hb => ?_) <;> (first | (exfalso; revert hb; decide) | ((try simp only [BL] at hb) <;> (try simp only [DL] at hb) <;> conv => whnf)))
        | (refine And.intro ?_ ?_; (focus (first | exact id | exact rfl | exact trivial | (intro hg; first | exact hg | exact rfl | (simp; done) | (simp at hg ⊢; assumption)) | omega | decide | exact is2_c _ _ _ | exact is1_c _ _ | exact isS_c _ _ | exact isB_c _ _ | exact Nat.le_refl _ | assumption | exact mulLe (by decide) (by omega) | exact mulLe2 (by decide) (by omega) (by omega) | (intros; simp only [BL] at *; omega) | (intros; (try simp only [BL] at *); (try simp only [DL] at *); omega) | (intros; simp only [BL] at *; rw [wr_id (by omega) (by omega)]; omega) | (intro h1 h2; exact Bool.and_eq_true_iff.2 ⟨h1, h2⟩) | exact ⟨rfl, by omega, by decide⟩ | (intros; simp_all; done))); conv => whnf)
        | (refine Or.inr (And.intro rfl ?_); first | (refine congrArg intV ?_) | (refine congrArg boolV ?_) | (refine tupII ?_ ?_) | (refine tupIII ?_ ?_ ?_) | (refine tupU ?_ ?_ ?_ ?_ ?_) | exact rfl))
      · have hci := hcp i (by omega)
        have e1 : IntKind.i64.wrap (S (cat n p p') i + cat n p p' i) = S (cat n p p') (i + 1) := wr_id (by omega) (by omega)
        refine ⟨i + 1, [?_, ?_, ?_, ?_, ?_], by omega, by omega, ?_⟩
        rotate_left 5
        refine Sub.of ?_ ?_ ?_
        repeat' (first | (refine And.intro ?_ ?_) | exact trivial | exact fun _ _ _ => hsc _ _ | (exact congrArg intV (by first | with_reducible rfl | with_reducible assumption)) | exact (rfl : AV.idsLt _ _ = true) | exact (rfl : _ = AV.ren _ (.own _)) | exact (rfl : _ = AV.ren _ (.fn _ _)) | exact (rfl : _ = AV.ren _ (.gh _)) | (exact congrArg intV (by assumption)) | (refine congrArg intV ((wr_id (by omega) (by omega)).trans (by omega))) | exact rfl | (simp only [Int.toNat_natCast, Int.toNat_zero, Nat.sub_zero, Nat.zero_add]; first | exact rfl | done) | exact all0 | exact fun h => Bool.noConfusion h | exact fun _ _ _ _ => rfl | omega)
      · rfl
      iterate 2
        · refine CallG.mk (Fn.mono (cxValues lo v n p q ok1) ?_)
          rintro obs r ⟨rfl, rfl⟩
          conv => whnf
          repeat' (first
            | (refine NilG.mk fun bn hbn => ?_; conv => whnf)
            | (refine Both.mk ?_ ?_ <;> conv => whnf)
            | exact trivial
            | (refine Br.mk (fun hb => ?_) (fun hb => ?_) <;> (first | (exfalso; revert hb; decide) | ((try simp only [BL] at hb) <;> (try simp only [DL] at hb) <;> conv => whnf)))
            | (refine And.intro ?_ ?_; (focus (first | exact id | exact rfl | exact trivial | (intro hg; first | exact hg | exact rfl | (simp; done) | (simp at hg ⊢; assumption)) | omega | decide | exact is2_c _ _ _ | exact is1_c _ _ | exact isS_c _ _ | exact isB_c _ _ | exact Nat.le_refl _ | assumption | exact mulLe (by decide) (by omega) | exact mulLe2 (by decide) (by omega) (by omega) | (intros; simp only [BL] at *; omega) | (intros; (try simp only [BL] at *); (try simp only [DL] at *); omega) | (intros; simp only [BL] at *; rw [wr_id (by omega) (by omega)]; omega) | (intro h1 h2; exact Bool.and_eq_true_iff.2 ⟨h1, h2⟩) | (intros; simp_all; done))); conv => whnf)
            | (refine Or.inr (And.intro rfl ?_); first | (refine congrArg intV ?_) | (refine congrArg boolV ?_) | (refine tupII ?_ ?_) | (refine tupIII ?_ ?_ ?_) | (refine tupU ?_ ?_ ?_ ?_ ?_) | exact rfl))
          refine CallG.mk (Fn.mono (cxValues lo' v' n' p' q' ok2) ?_)
          rintro obs r ⟨rfl, rfl⟩
          conv => whnf
          repeat' (first
            | (refine NilG.mk fun bn hbn => ?_; conv => whnf)
            | (refine Both.mk ?_ ?_ <;> conv => whnf)
            | exact trivial
            | (refine Br.mk (fun hb => ?_) (fun hb => ?_) <;> (first | (exfalso; revert hb; decide) | ((try simp only [BL] at hb) <;> (try simp only [DL] at hb) <;> conv => whnf)))
            | (refine And.intro ?_ ?_; (focus (first | exact id | exact rfl | exact trivial | (intro hg; first | exact hg | exact rfl | (simp; done) | (simp at hg ⊢; assumption)) | omega | decide | exact is2_c _ _ _ | exact is1_c _ _ | exact isS_c _ _ | exact isB_c _ _ | exact Nat.le_refl _ | assumption | exact mulLe (by decide) (by omega) | exact mulLe2 (by decide) (by omega) (by omega) | (intros; simp only [BL] at *; omega) | (intros; (try simp only [BL] at *); (try simp only [DL] at *); omega) | (intros; simp only [BL] at *; rw [wr_id (by omega) (by omega)]; omega) | (intro h1 h2; exact Bool.and_eq_true_iff.2 ⟨h1, h2⟩) | (intros; simp_all; done))); conv => whnf)
            | (refine Or.inr (And.intro rfl ?_); first | (refine congrArg intV ?_) | (refine congrArg boolV ?_) | (refine tupII ?_ ?_) | (refine tupIII ?_ ?_ ?_) | (refine tupU ?_ ?_ ?_ ?_ ?_) | exact rfl))
          refine LoopG.nil 15 3 1 rfl ?_
          refine LoopG.sub (S' := ⟨[(2, .lp 0 0), (3, .lp 1 0), (5, .lp 2 0), (6, intV e), (7, .lp 3 0), (8, intV h), (13, .c (.sl 1 (cxT n p + 1) (c1 (cW v n p q)))), (14, .c (.sl 1 (cxT n' p' + 1) (c1 (cW v' n' p' q')))), (15, .own 4), (16, intV (max lo lo')), (17, intV (max lo lo'))], [.box [intV lo, intV v, .c (.sl 2 n (c2 p q))], .box [intV lo', intV v', .c (.sl 2 n' (c2 p' q'))], .box [intV la, intV wa, .c (.sl 2 na (c2 pa qa))], .box [intV lc, intV wc, .c (.sl 2 nc (c2 pc qc))], .row 3 1 0 false (fun _ _ => .v undef)]⟩) (key.v ⟨by omega, by omega⟩) ?_
          refine ⟨0, [?_, ?_, ?_, ?_, ?_], trivial, by decide, ?_⟩
          rotate_left 5
          refine Sub.of ?_ ?_ ?_
          repeat' (first | (refine And.intro ?_ ?_) | exact trivial | exact fun _ _ _ => hsc _ _ | (exact congrArg intV (by first | with_reducible rfl | with_reducible assumption)) | exact (rfl : AV.idsLt _ _ = true) | exact (rfl : _ = AV.ren _ (.own _)) | exact (rfl : _ = AV.ren _ (.fn _ _)) | exact (rfl : _ = AV.ren _ (.gh _)) | (exact congrArg intV (by assumption)) | (refine congrArg intV ((wr_id (by omega) (by omega)).trans (by omega))) | exact rfl | (simp only [Int.toNat_natCast, Int.toNat_zero, Nat.sub_zero, Nat.zero_add]; first | exact rfl | done) | exact all0 | exact fun h => Bool.noConfusion h | exact fun _ _ _ _ => rfl | omega)
    · intro hlong
      obtain ⟨hT60, rfl⟩ := hlong
      rw [hcs] at hT60
      have hT1 : (cxT n p : Int) = S p n := by unfold cxT; omega
      have hT2 : (cxT n' p' : Int) = S p' n' := by unfold cxT; omega
      refine sem_loop tab_ok gamXS_ok mixed (by kernel_rfl) (O := ordCS) (fun i : Nat => ⟨[(2, .lp 0 0), (3, .lp 1 0), (5, .lp 2 0), (6, intV e), (7, .lp 3 0), (8, intV h), (13, .c (.sl 1 (cxT n p + 1) (c1 (cW v n p q)))), (14, .c (.sl 1 (cxT n' p' + 1) (c1 (cW v' n' p' q')))), (15, .own 4), (16, intV (max lo lo')), (17, intV (max lo lo' + i))], [.box [intV lo, intV v, .c (.sl 2 n (c2 p q))], .box [intV lo', intV v', .c (.sl 2 n' (c2 p' q'))], .box [intV la, intV wa, .c (.sl 2 na (c2 pa qa))], .box [intV lc, intV wc, .c (.sl 2 nc (c2 pc qc))], .row 3 1 i false (c1 fun m => cW v n p q ((max lo lo' - lo).toNat + m) + cW v' n' p' q' ((max lo lo' - lo').toNat + m))]⟩) (fun i => i = 0 ∨ max lo lo' + i ≤ min (lo + S p n) (lo' + S p' n') + 1) (fun i => 100 - i) ⟨0, [?_, ?_, ?_, ?_, ?_], .inl rfl, ?_⟩ fun i hi => ?_
      rotate_left 5
      · refine Sub.of ?_ ?_ ?_
        repeat' (first | (refine And.intro ?_ ?_) | exact trivial | exact fun _ _ _ => hsc _ _ | (exact congrArg intV (by first | with_reducible rfl | with_reducible assumption)) | exact (rfl : AV.idsLt _ _ = true) | exact (rfl : _ = AV.ren _ (.own _)) | exact (rfl : _ = AV.ren _ (.fn _ _)) | exact (rfl : _ = AV.ren _ (.gh _)) | (exact congrArg intV (by assumption)) | (refine congrArg intV ((wr_id (by omega) (by omega)).trans (by omega))) | exact rfl | (simp only [Int.toNat_natCast, Int.toNat_zero, Nat.sub_zero, Nat.zero_add]; first | exact rfl | done) | exact all0 | exact fun h => Bool.noConfusion h | exact fun _ _ _ _ => rfl | omega)
        · exact congrArg intV (by omega)
      have hw1 : IntKind.i64.wrap (lo + ((cxT n p + 1 : Nat) : Int)) = lo + S p n + 1 := (wr_id (by omega) (by omega)).trans (by omega)
      have hw2 : IntKind.i64.wrap (lo' + ((cxT n' p' + 1 : Nat) : Int)) = lo' + S p' n' + 1 := (wr_id (by omega) (by omega)).trans (by omega)
      have hw3 : IntKind.i64.wrap (min (IntKind.i64.wrap (lo + ((cxT n p + 1 : Nat) : Int))) (IntKind.i64.wrap (lo' + ((cxT n' p' + 1 : Nat) : Int))) - 1) = min (lo + S p n) (lo' + S p' n') := by
        rw [hw1, hw2]
        exact (wr_id (by omega) (by omega)).trans (by omega)
      obtain ⟨N, hN⟩ : ∃ N, N = cxT n p + cxT n' p' + 1 := ⟨_, rfl⟩
      have hN' : N ≤ 61 := by omega
      have hw4 : IntKind.i64.wrap (IntKind.i64.wrap (((cxT n p + 1 : Nat) : Int) + ((cxT n' p' + 1 : Nat) : Int)) - 1) = (N : Int) := by
        rw [wr_id (x := ((cxT n p + 1 : Nat) : Int) + ((cxT n' p' + 1 : Nat) : Int)) (by omega) (by omega)]
        exact (wr_id (by omega) (by omega)).trans (by omega)
      have hb8 : e3.bytes = 8 := rfl
      apply share
      · intro key
        conv => whnf
        repeat' (first
          | (refine NilG.mk fun bn hbn => ?_; conv => whnf)
          | (refine Both.mk ?_ ?_ <;> conv => whnf)
          | exact trivial
          | (refine Br.mk (fun hb => ?_) (fun hb => ?_) <;> (first | (exfalso; revert hb; decide) | ((try simp only [BL] at hb) <;> (try simp only [DL] at hb) <;> conv => whnf)))
          | (refine And.intro ?_ ?_; (focus (first | exact id | exact rfl | exact trivial | (intro hg; first | exact hg | exact rfl | (simp; done) | (simp at hg ⊢; assumption)) | omega | decide | exact is2_c _ _ _ | exact is1_c _ _ | exact isS_c _ _ | exact isB_c _ _ | exact Nat.le_refl _ | assumption | exact mulLe (by decide) (by omega) | exact mulLe2 (by decide) (by omega) (by omega) | (intros; simp only [BL] at *; omega) | (intros; (try simp only [BL] at *); (try simp only [DL] at *); omega) | (intros; simp only [BL] at *; rw [wr_id (by omega) (by omega)]; omega) | (intro h1 h2; exact Bool.and_eq_true_iff.2 ⟨h1, h2⟩) | (refine ⟨?_, ?_⟩ <;> (rw [wr_id (by omega) (by omega)]; omega)) | (intros; simp_all; done))); conv => whnf)
          | (refine Or.inr (And.intro rfl ?_); first | (refine congrArg intV ?_) | (refine congrArg boolV ?_) | (refine tupII ?_ ?_) | (refine tupIII ?_ ?_ ?_) | (refine tupU ?_ ?_ ?_ ?_ ?_) | exact rfl))
        · have hb : max lo lo' + (i : Int) ≤ min (lo + S p n) (lo' + S p' n') := by rw [← hw3]; exact hb
          have q1 := cW_le ok1 ((max lo lo' - lo).toNat + i)
          have q2 := cW_le ok2 ((max lo lo' - lo').toNat + i)
          have k1 : (IntKind.i64.wrap (max lo lo' + (i : Int) - lo)).toNat = (max lo lo' - lo).toNat + i := by rw [wr_id (by omega) (by omega)]; omega
          have k2 : (IntKind.i64.wrap (max lo lo' + (i : Int) - lo')).toNat = (max lo lo' - lo').toNat + i := by rw [wr_id (by omega) (by omega)]; omega
          have k3 : IntKind.i64.wrap (cW v n p q (IntKind.i64.wrap (max lo lo' + (i : Int) - lo)).toNat + cW v' n' p' q' (IntKind.i64.wrap (max lo lo' + (i : Int) - lo')).toNat) = cW v n p q ((max lo lo' - lo).toNat + i) + cW v' n' p' q' ((max lo lo' - lo').toNat + i) := by
            rw [k1, k2]
            exact wr_id (by omega) (by omega)
          refine ⟨i + 1, [?_, ?_, ?_, ?_, ?_], .inr (by omega), by omega, ?_⟩
          rotate_left 5
          refine Sub.of ?_ ?_ ?_
          repeat' (first | (refine And.intro ?_ ?_) | exact trivial | exact fun _ _ _ => hsc _ _ | (exact congrArg intV (by first | with_reducible rfl | with_reducible assumption)) | exact (rfl : AV.idsLt _ _ = true) | exact (rfl : _ = AV.ren _ (.own _)) | exact (rfl : _ = AV.ren _ (.fn _ _)) | exact (rfl : _ = AV.ren _ (.gh _)) | (exact congrArg intV (by assumption)) | (refine congrArg intV ((wr_id (by omega) (by omega)).trans (by omega))) | exact rfl | (simp only [Int.toNat_natCast, Int.toNat_zero, Nat.sub_zero, Nat.zero_add]; first | exact rfl | done) | exact all0 | exact fun h => Bool.noConfusion h | exact fun _ _ _ _ => rfl | omega)
          intro aq haq bq hbq
          by_cases hltq : aq < i
          · exact if_pos hltq
          · obtain rfl : aq = i := by omega
            refine (if_neg hltq).trans ?_
            rw [Nat.sub_self]
            revert bq hbq
            refine all1 (congrArg iL k3)
        · rename_i hex hz
          exfalso
          refine hb (hA.1 ?_)
          rw [hw3] at hex
          have : i = 0 := by exact_mod_cast hz
          omega
        · rw [hw4]
          rw [Int.toNat_natCast]
          refine LoopG.sub (S' := ⟨[(2, .lp 0 0), (3, .lp 1 0), (7, .lp 2 0), (8, intV h), (13, .c (.sl 1 (cxT n p + 1) (c1 (cW v n p q)))), (14, .c (.sl 1 (cxT n' p' + 1) (c1 (cW v' n' p' q')))), (18, .own 3), (153, intV N), (154, intV 0)], [.box [intV lo, intV v, .c (.sl 2 n (c2 p q))], .box [intV lo', intV v', .c (.sl 2 n' (c2 p' q'))], .box [intV lc, intV wc, .c (.sl 2 nc (c2 pc qc))], .row 3 1 N false (c1 fun _ => 0)]⟩) key.v ?_
          refine ⟨0, [?_, ?_, ?_, ?_], trivial, by decide, ?_⟩
          rotate_left 4
          refine Sub.of ?_ ?_ ?_
          repeat' (first | (refine And.intro ?_ ?_) | exact trivial | exact fun _ _ _ => hsc _ _ | (exact congrArg intV (by first | with_reducible rfl | with_reducible assumption)) | exact (rfl : AV.idsLt _ _ = true) | exact (rfl : _ = AV.ren _ (.own _)) | exact (rfl : _ = AV.ren _ (.fn _ _)) | exact (rfl : _ = AV.ren _ (.gh _)) | (exact congrArg intV (by assumption)) | (refine congrArg intV ((wr_id (by omega) (by omega)).trans (by omega))) | exact rfl | (simp only [Int.toNat_natCast, Int.toNat_zero, Nat.sub_zero, Nat.zero_add]; first | exact rfl | done) | exact all0 | exact fun h => Bool.noConfusion h | exact fun _ _ _ _ => rfl | omega)
          intro a ha b hb9
          have hb9 : b < 1 := hb9
          match b, hb9 with
          | 0, _ => rfl
        · rename_i hex
          have hi0 : i ≠ 0 := fun h => hb (by exact_mod_cast h)
          rw [hw3] at hex
          have hlh : ¬ max lo lo' > min (lo + S p n) (lo' + S p' n') := by omega
          obtain ⟨v1, hm⟩ := hA.2 hlh
          refine And.intro (fun hg => ?_) ?_
          · rw [Bool.and_eq_true] at hg
            rcases hm with hm | ⟨m1, m2, m3, m4, m5⟩
            · rw [hm] at hg
              exact absurd hg.1 (by decide)
            · exact ⟨is2_c _ _ _, is1_c _ _, m2, m3, (by show i = cxT na pa + 1; omega), fun j hj => (m5 j (by omega)).symm⟩
          conv => whnf
          repeat' (first
            | (refine NilG.mk fun bn hbn => ?_; conv => whnf)
            | (refine Both.mk ?_ ?_ <;> conv => whnf)
            | exact trivial
            | (refine Br.mk (fun hb => ?_) (fun hb => ?_) <;> (first | (exfalso; revert hb; decide) | ((try simp only [BL] at hb) <;> (try simp only [DL] at hb) <;> conv => whnf)))
            | (refine And.intro ?_ ?_; (focus (first | exact id | exact rfl | exact trivial | (intro hg; first | exact hg | exact rfl | (simp; done) | (simp at hg ⊢; assumption)) | omega | decide | exact is2_c _ _ _ | exact is1_c _ _ | exact isS_c _ _ | exact isB_c _ _ | exact Nat.le_refl _ | assumption | exact mulLe (by decide) (by omega) | exact mulLe2 (by decide) (by omega) (by omega) | (intros; simp only [BL] at *; omega) | (intros; (try simp only [BL] at *); (try simp only [DL] at *); omega) | (intros; simp only [BL] at *; rw [wr_id (by omega) (by omega)]; omega) | (intro h1 h2; exact Bool.and_eq_true_iff.2 ⟨h1, h2⟩) | (intros; simp_all; done))); conv => whnf)
            | (refine Or.inr (And.intro rfl ?_); first | (refine congrArg intV ?_) | (refine congrArg boolV ?_) | (refine tupII ?_ ?_) | (refine tupIII ?_ ?_ ?_) | (refine tupU ?_ ?_ ?_ ?_ ?_) | exact rfl))
          · exfalso
            rcases hm with hm | ⟨m1, -⟩
            · exact hb.1 hm
            · rcases hb.2 with hb | hb
              · exact hb m1
              · cases hb
          rw [hw4]
          rw [Int.toNat_natCast]
          refine LoopG.sub (S' := ⟨[(2, .lp 0 0), (3, .lp 1 0), (7, .lp 2 0), (8, intV h), (13, .c (.sl 1 (cxT n p + 1) (c1 (cW v n p q)))), (14, .c (.sl 1 (cxT n' p' + 1) (c1 (cW v' n' p' q')))), (18, .own 3), (153, intV N), (154, intV 0)], [.box [intV lo, intV v, .c (.sl 2 n (c2 p q))], .box [intV lo', intV v', .c (.sl 2 n' (c2 p' q'))], .box [intV lc, intV wc, .c (.sl 2 nc (c2 pc qc))], .row 3 1 N false (c1 fun _ => 0)]⟩) key.v ?_
          refine ⟨0, [?_, ?_, ?_, ?_], trivial, by decide, ?_⟩
          rotate_left 4
          refine Sub.of ?_ ?_ ?_
          repeat' (first | (refine And.intro ?_ ?_) | exact trivial | exact fun _ _ _ => hsc _ _ | (exact congrArg intV (by first | with_reducible rfl | with_reducible assumption)) | exact (rfl : AV.idsLt _ _ = true) | exact (rfl : _ = AV.ren _ (.own _)) | exact (rfl : _ = AV.ren _ (.fn _ _)) | exact (rfl : _ = AV.ren _ (.gh _)) | (exact congrArg intV (by assumption)) | (refine congrArg intV ((wr_id (by omega) (by omega)).trans (by omega))) | exact rfl | (simp only [Int.toNat_natCast, Int.toNat_zero, Nat.sub_zero, Nat.zero_add]; first | exact rfl | done) | exact all0 | exact fun h => Bool.noConfusion h | exact fun _ _ _ _ => rfl | omega)
          intro a ha b hb9
          have hb9 : b < 1 := hb9
          match b, hb9 with
          | 0, _ => rfl
      · obtain ⟨v1, W, hm, hW⟩ := hC
        have hmin : ∀ k, k < N → cvS (cW v n p q) (cW v' n' p' q') (cxT n' p' + 1) k (cxT n p + 1) = (false, W k) := fun k hk => by
          obtain ⟨g1, i, j, g2, g3, g4, g5⟩ := hW k (by omega)
          exact cvS_min (fun a ha hak hkn => g1 a (k - a) (by omega) (by omega) (by omega)) ⟨i, by omega, by omega, by omega, by rw [show k - i = j by omega]; exact g5⟩
        refine sem_loop tab_ok gamXS_ok mixed (by kernel_rfl) (O := ordCS) (fun k : Nat => ⟨[(2, .lp 0 0), (3, .lp 1 0), (7, .lp 2 0), (8, intV h), (13, .c (.sl 1 (cxT n p + 1) (c1 (cW v n p q)))), (14, .c (.sl 1 (cxT n' p' + 1) (c1 (cW v' n' p' q')))), (18, .own 3), (153, intV N), (154, intV k)], [.box [intV lo, intV v, .c (.sl 2 n (c2 p q))], .box [intV lo', intV v', .c (.sl 2 n' (c2 p' q'))], .box [intV lc, intV wc, .c (.sl 2 nc (c2 pc qc))], .row 3 1 N false (c1 fun j => if j < k then W j else 0)]⟩) (fun k => k ≤ N) (fun k => N - k) ⟨0, [?_, ?_, ?_, ?_], Nat.zero_le _, ?_⟩ fun k hk => ?_
        rotate_left 4
        · refine Sub.of ?_ ?_ ?_
          repeat' (first | (refine And.intro ?_ ?_) | exact trivial | exact fun _ _ _ => hsc _ _ | (exact congrArg intV (by first | with_reducible rfl | with_reducible assumption)) | exact (rfl : AV.idsLt _ _ = true) | exact (rfl : _ = AV.ren _ (.own _)) | exact (rfl : _ = AV.ren _ (.fn _ _)) | exact (rfl : _ = AV.ren _ (.gh _)) | (exact congrArg intV (by assumption)) | (refine congrArg intV ((wr_id (by omega) (by omega)).trans (by omega))) | exact rfl | (simp only [Int.toNat_natCast, Int.toNat_zero, Nat.sub_zero, Nat.zero_add]; first | exact rfl | done) | exact all0 | exact fun h => Bool.noConfusion h | exact fun _ _ _ _ => rfl | omega)
        conv => whnf
        repeat' (first
          | (refine NilG.mk fun bn hbn => ?_; conv => whnf)
          | (refine Both.mk ?_ ?_ <;> conv => whnf)
          | exact trivial
          | (refine Br.mk (fun hb => ?_) (fun hb => ?_) <;> (first | (exfalso; revert hb; decide) | ((try simp only [BL] at hb) <;> (try simp only [DL] at hb) <;> conv => whnf)))
          | (refine And.intro ?_ ?_; (focus (first | exact id | exact rfl | exact trivial | (intro hg; first | exact hg | exact rfl | (simp; done) | (simp at hg ⊢; assumption)) | omega | decide | exact is2_c _ _ _ | exact is1_c _ _ | exact isS_c _ _ | exact isB_c _ _ | exact Nat.le_refl _ | assumption | exact mulLe (by decide) (by omega) | exact mulLe2 (by decide) (by omega) (by omega) | (intros; simp only [BL] at *; omega) | (intros; (try simp only [BL] at *); (try simp only [DL] at *); omega) | (intros; simp only [BL] at *; rw [wr_id (by omega) (by omega)]; omega) | (intro h1 h2; exact Bool.and_eq_true_iff.2 ⟨h1, h2⟩) | (intros; simp_all; done))); conv => whnf)
          | (refine Or.inr (And.intro rfl ?_); first | (refine congrArg intV ?_) | (refine congrArg boolV ?_) | (refine tupII ?_ ?_) | (refine tupIII ?_ ?_ ?_) | (refine tupU ?_ ?_ ?_ ?_ ?_) | exact rfl))
        · refine sem_loop tab_ok gamXS_ok mixed (by kernel_rfl) (O := ordCS) (fun i : Nat => ⟨[(2, .lp 0 0), (3, .lp 1 0), (7, .lp 2 0), (8, intV h), (13, .c (.sl 1 (cxT n p + 1) (c1 (cW v n p q)))), (14, .c (.sl 1 (cxT n' p' + 1) (c1 (cW v' n' p' q')))), (18, .own 3), (19, intV k), (20, boolV (cvS (cW v n p q) (cW v' n' p' q') (cxT n' p' + 1) k i).1), (153, intV N), (154, intV k), (157, .c (.sl 1 (cxT n p + 1) (c1 (cW v n p q)))), (158, intV ((cxT n p + 1 : Nat) : Int)), (159, intV i)], [.box [intV lo, intV v, .c (.sl 2 n (c2 p q))], .box [intV lo', intV v', .c (.sl 2 n' (c2 p' q'))], .box [intV lc, intV wc, .c (.sl 2 nc (c2 pc qc))], .row 3 1 N false (c1 fun j => if j < k then W j else if j = k then (cvS (cW v n p q) (cW v' n' p' q') (cxT n' p' + 1) k i).2 else 0)]⟩) (fun i => i ≤ cxT n p + 1) (fun i => cxT n p + 1 - i) ⟨0, [?_, ?_, ?_, ?_], Nat.zero_le _, ?_⟩ fun i hi => ?_
          rotate_left 4
          · refine Sub.of ?_ ?_ ?_
            repeat' (first | (refine And.intro ?_ ?_) | exact trivial | exact fun _ _ _ => hsc _ _ | (exact congrArg intV (by first | with_reducible rfl | with_reducible assumption)) | exact (rfl : AV.idsLt _ _ = true) | exact (rfl : _ = AV.ren _ (.own _)) | exact (rfl : _ = AV.ren _ (.fn _ _)) | exact (rfl : _ = AV.ren _ (.gh _)) | (exact congrArg intV (by assumption)) | (refine congrArg intV ((wr_id (by omega) (by omega)).trans (by omega))) | exact rfl | (simp only [Int.toNat_natCast, Int.toNat_zero, Nat.sub_zero, Nat.zero_add]; first | exact rfl | done) | exact all0 | exact fun h => Bool.noConfusion h | exact fun _ _ _ _ => rfl | omega)
            · intro a ha b hb9
              match b, hb9 with
              | 0, _ =>
                have hz0 : (if a = k then (0 : Int) else 0) = 0 := by split <;> rfl
                show iL (if a < k then W a else 0) = iL (if a < k then W a else if a = k then 0 else 0)
                rw [hz0]
          have hb : k < N := by omega
          have q1 := cW_le ok1 i
          have q2 := cW_le ok2 (k - i)
          have e9 : IntKind.i64.wrap ((k : Int) - (i : Int)) = (k : Int) - i := wr_id (by omega) (by omega)
          have k2 : (IntKind.i64.wrap ((k : Int) - (i : Int))).toNat = k - i := by rw [e9]; omega
          have k3 : i ≤ k → IntKind.i64.wrap (cW v n p q i + cW v' n' p' q' (IntKind.i64.wrap ((k : Int) - (i : Int))).toNat) = cW v n p q i + cW v' n' p' q' (k - i) := fun _ => by rw [k2]; exact wr_id (by omega) (by omega)
          conv => whnf
          repeat' (first
            | (refine NilG.mk fun bn hbn => ?_; conv => whnf)
            | (refine Both.mk ?_ ?_ <;> conv => whnf)
            | exact trivial
            | (refine Br.mk (fun hb => ?_) (fun hb => ?_) <;> (first | (exfalso; revert hb; decide) | ((try simp only [BL] at hb) <;> (try simp only [DL] at hb) <;> conv => whnf)))
            | (refine And.intro ?_ ?_; (focus (first | exact id | exact rfl | exact trivial | (intro hg; first | exact hg | exact rfl | (simp; done) | (simp at hg ⊢; assumption)) | omega | decide | exact is2_c _ _ _ | exact is1_c _ _ | exact isS_c _ _ | exact isB_c _ _ | exact Nat.le_refl _ | assumption | exact mulLe (by decide) (by omega) | exact mulLe2 (by decide) (by omega) (by omega) | (intros; simp only [BL] at *; omega) | (intros; (try simp only [BL] at *); (try simp only [DL] at *); omega) | (intros; simp only [BL] at *; rw [wr_id (by omega) (by omega)]; omega) | (intro h1 h2; exact Bool.and_eq_true_iff.2 ⟨h1, h2⟩) | (intros; simp_all; done))); conv => whnf)
            | (refine Or.inr (And.intro rfl ?_); first | (refine congrArg intV ?_) | (refine congrArg boolV ?_) | (refine tupII ?_ ?_) | (refine tupIII ?_ ?_ ?_) | (refine tupU ?_ ?_ ?_ ?_ ?_) | exact rfl))
          · obtain ⟨hik, hst⟩ := cvS_yes hb e9 k3
            have f1 : (cvS (cW v n p q) (cW v' n' p' q') (cxT n' p' + 1) k (i + 1)).1 = false := by rw [hst]
            refine ⟨i + 1, [?_, ?_, ?_, ?_], by omega, by omega, ?_⟩
            rotate_left 4
            refine Sub.of ?_ ?_ ?_
            repeat' (first | (exact congrArg boolV f1.symm) | (refine And.intro ?_ ?_) | exact trivial | exact fun _ _ _ => hsc _ _ | (exact congrArg intV (by first | with_reducible rfl | with_reducible assumption)) | exact (rfl : AV.idsLt _ _ = true) | exact (rfl : _ = AV.ren _ (.own _)) | exact (rfl : _ = AV.ren _ (.fn _ _)) | exact (rfl : _ = AV.ren _ (.gh _)) | (exact congrArg intV (by assumption)) | (refine congrArg intV ((wr_id (by omega) (by omega)).trans (by omega))) | exact rfl | (simp only [Int.toNat_natCast, Int.toNat_zero, Nat.sub_zero, Nat.zero_add]; first | exact rfl | done) | exact all0 | exact fun h => Bool.noConfusion h | exact fun _ _ _ _ => rfl | omega)
            intro a ha b hb9
            match b, hb9 with
            | 0, _ =>
              by_cases hak : a = k
              · subst hak
                refine (if_pos rfl).trans ?_
                refine Eq.trans (b := iL (cW v n p q i + cW v' n' p' q' (a - i))) (congrArg iL (k3 hik)) ?_
                show _ = iL (if a < a then W a else if a = a then (cvS (cW v n p q) (cW v' n' p' q') (cxT n' p' + 1) a (i + 1)).2 else 0)
                rw [if_neg (Nat.lt_irrefl a), if_pos rfl, hst]
              · refine (if_neg hak).trans ?_
                show iL (if a < k then W a else if a = k then _ else 0) = iL (if a < k then W a else if a = k then _ else 0)
                simp only [if_neg hak]
          · have hst := cvS_no hb e9 k3
            refine ⟨i + 1, [?_, ?_, ?_, ?_], by omega, by omega, ?_⟩
            rotate_left 4
            refine Sub.of ?_ ?_ ?_
            repeat' (first | (exact congrArg boolV (congrArg Prod.fst hst).symm) | (refine And.intro ?_ ?_) | exact trivial | exact fun _ _ _ => hsc _ _ | (exact congrArg intV (by first | with_reducible rfl | with_reducible assumption)) | exact (rfl : AV.idsLt _ _ = true) | exact (rfl : _ = AV.ren _ (.own _)) | exact (rfl : _ = AV.ren _ (.fn _ _)) | exact (rfl : _ = AV.ren _ (.gh _)) | (exact congrArg intV (by assumption)) | (refine congrArg intV ((wr_id (by omega) (by omega)).trans (by omega))) | exact rfl | (simp only [Int.toNat_natCast, Int.toNat_zero, Nat.sub_zero, Nat.zero_add]; first | exact rfl | done) | exact all0 | exact fun h => Bool.noConfusion h | exact fun _ _ _ _ => rfl | omega)
            rw [hst]
            exact fun _ _ _ _ => rfl
          · obtain rfl : i = cxT n p + 1 := by omega
            refine ⟨k + 1, [?_, ?_, ?_, ?_], by omega, by omega, ?_⟩
            rotate_left 4
            refine Sub.of ?_ ?_ ?_
            repeat' (first | (refine And.intro ?_ ?_) | exact trivial | exact fun _ _ _ => hsc _ _ | (exact congrArg intV (by first | with_reducible rfl | with_reducible assumption)) | exact (rfl : AV.idsLt _ _ = true) | exact (rfl : _ = AV.ren _ (.own _)) | exact (rfl : _ = AV.ren _ (.fn _ _)) | exact (rfl : _ = AV.ren _ (.gh _)) | (exact congrArg intV (by assumption)) | (refine congrArg intV ((wr_id (by omega) (by omega)).trans (by omega))) | exact rfl | (simp only [Int.toNat_natCast, Int.toNat_zero, Nat.sub_zero, Nat.zero_add]; first | exact rfl | done) | exact all0 | exact fun h => Bool.noConfusion h | exact fun _ _ _ _ => rfl | omega)
            intro a ha b hb9
            match b, hb9 with
            | 0, _ =>
              show iL (if a < k then W a else if a = k then (cvS (cW v n p q) (cW v' n' p' q') (cxT n' p' + 1) k (cxT n p + 1)).2 else 0) = iL (if a < k + 1 then W a else 0)
              rw [hmin k (by omega)]
              refine congrArg iL ?_
              by_cases h1 : a < k
              · rw [if_pos h1, if_pos (by omega)]
              · rw [if_neg h1]
                by_cases h2 : a = k
                · rw [if_pos h2, if_pos (by omega), h2]
                · rw [if_neg h2, if_neg (by omega)]
        refine And.intro (fun hg => ?_) ?_
        · rw [Bool.and_eq_true] at hg
          rcases hm with hm | ⟨m1, m2, m3, m4, m5⟩
          · rw [hm] at hg
            exact absurd hg.1 (by decide)
          · refine ⟨is2_c _ _ _, is1_c _ _, m2, m3.trans (wr_id (by omega) (by omega)).symm, (by show N = cxT nc pc + 1; omega), fun j hj => ?_⟩
            show (if j < k then W j else 0) = cW wc nc pc qc j
            rw [if_pos (by omega)]
            exact (m5 j (by omega)).symm
        conv => whnf
        repeat' (first
          | (refine NilG.mk fun bn hbn => ?_; conv => whnf)
          | (refine Both.mk ?_ ?_ <;> conv => whnf)
          | exact trivial
          | (refine Br.mk (fun hb => ?_) (fun hb => ?_) <;> (first | (exfalso; revert hb; decide) | ((try simp only [BL] at hb) <;> (try simp only [DL] at hb) <;> conv => whnf)))
          | (refine And.intro ?_ ?_; (focus (first | exact id | exact rfl | exact trivial | (intro hg; first | exact hg | exact rfl | (simp; done) | (simp at hg ⊢; assumption)) | omega | decide | exact is2_c _ _ _ | exact is1_c _ _ | exact isS_c _ _ | exact isB_c _ _ | exact Nat.le_refl _ | assumption | exact mulLe (by decide) (by omega) | exact mulLe2 (by decide) (by omega) (by omega) | (intros; simp only [BL] at *; omega) | (intros; (try simp only [BL] at *); (try simp only [DL] at *); omega) | (intros; simp only [BL] at *; rw [wr_id (by omega) (by omega)]; omega) | (intro h1 h2; exact Bool.and_eq_true_iff.2 ⟨h1, h2⟩) | (intros; simp_all; done))); conv => whnf)
          | (refine Or.inr (And.intro rfl ?_); first | (refine congrArg intV ?_) | (refine congrArg boolV ?_) | (refine tupII ?_ ?_) | (refine tupIII ?_ ?_ ?_) | (refine tupU ?_ ?_ ?_ ?_ ?_) | exact rfl))
        rcases hm with rfl | ⟨rfl, -⟩ <;> rfl

theorem convexSums_own : ownKnob Try.prog.godebug = none := by kernel_rfl
theorem convexSums_laid : laidOutB Try.prog = true := by kernel_rfl

set_option maxRecDepth 100000 in
theorem convexSums_lifted (os : Os) (started : os.Started) (H : Type) (enc : TypeId × Value → H) :
    ReturnsInHanded {} Try.checked os 4 .any (Rows.convexSumsSpec.pre6 enc Try.prog Try.f4 Rows.convexSumsRow.domain false) (Rows.convexSumsSpec.post enc Try.prog Try.f4 false true false false) := by
  refine returnsInHanded_of_change (C := Try.checked) convexSums_own started (by kernel_rfl) Try.func4
    (ChangeSpec.witness6 (enc := enc) (C := Try.checked) false ⟨#[], #[.agg #[.int .i64 0, .int .i64 0, .slice none 0 0], .agg #[.int .i64 0, .int .i64 0, .slice none 0 0]], []⟩ 8 (by kernel_rfl) (by kernel_rfl) (by kernel_rfl) (by kernel_rfl)) ?_
  intro W base args ds gs before hval0 hW hcnd _
  have hval : ∀ (j : Nat) t v, Try.f4.params[j]? = some t → args[j]? = some v → Value.okWide Try.prog W .any base t v := hval0
  have hW' : DataW.Whole enc Try.prog Try.f4.params.toList Rows.convexSumsSpec.vars false W args.toList ds gs before := hW
  exact law_post (P := Try.prog) [.st (.cons (.i .i64) (.cons (.i .i64) (.cons (.sl (.st (.cons (.i .i64) (.cons (.i .i64) .nil)))) .nil))), .st (.cons (.i .i64) (.cons (.i .i64) (.cons (.sl (.st (.cons (.i .i64) (.cons (.i .i64) .nil)))) .nil)))] (by kernel_rfl) convexSums_laid (by kernel_rfl) rfl (tb := 4) rfl (by kernel_rfl) (fun ds h => by
    match ds, h with
    | [d1, d2], _ => rfl) (fun x hx => csLaw x.1.1 x.1.2.1 x.1.2.2.1.1 (fun k => (x.1.2.2.1.2 k).1) (fun k => (x.1.2.2.1.2 k).2.1) x.2.1.1 x.2.1.2.1 x.2.1.2.2.1.1 (fun k => (x.2.1.2.2.1.2 k).1) (fun k => (x.2.1.2.2.1.2 k).2.1) hx.1.2.2.1.1 hx.2.1.2.2.1.1) W args ds gs before hval hW'

theorem convexSums_holds : Rows.ConvexSumsSaid :=
  OpenClaim.holds_of_wide 4 Try.f4 rfl rfl rfl rfl rfl rfl rfl ⟨rfl, rfl, rfl, rfl, rfl⟩ rfl rfl rfl rfl rfl (by kernel_rfl) Try.func4 (by kernel_rfl)
    (of_decide_eq_true (by kernel_rfl)) (by unfold Func.isWrapper; rw [if_neg (by decide +kernel)]; exact ⟨rfl, rfl⟩)
    (fun os started H enc _ => convexSums_lifted os started H enc)

end Go.Proofs.Ytkkkldhilofgmaa
