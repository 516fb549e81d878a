/-
  The law DualSingle: the walk.
-/
import Derived.Test.YtdakikgebfphmaaDsgL
namespace Go.Proofs.Ytdakikgebfphmaa
open Go.RowKit Go.ChangeShapes Go.WideShapes

theorem dSame (n m : Nat) (x y : Nat → Int) (h : n ≤ 9000000 ∧ m = n ∧ ∀ i, i < n → x i = y i) : Fn1 Try.prog 34 [.c (.sl 1 n (c1 x)), .c (.sl 1 m (c1 y))] (boolV true) := by
  refine fn_of_wpx (O := lex) tab_ok gamZ_ok mixed Try.func34 (by kernel_rfl) rfl rfl rfl (by simp [Try.ntmps34]) (by kernel_rfl) ?_
  obtain ⟨hn, rfl, he⟩ := h
  conv => whnf
  repeat' (first
    | (refine NilG.mk fun bn hbn => ?_; conv => whnf)
    | (refine Both.mk ?_ ?_ <;> conv => whnf)
    | exact trivial
    | (refine Br.mk (fun hb => ?_) (fun hb => ?_) <;> (first | (exfalso; revert hb; decide) | ((try simp only [BL] at hb) <;> (try simp only [DL] at hb) <;> conv => whnf)))
    | (refine And.intro ?_ ?_; (focus (first | exact id | exact rfl | exact trivial | (intro hg; first | exact hg | exact rfl | (simp; done) | (simp at hg ⊢; assumption)) | omega | decide | exact is2_c _ _ _ | exact is1_c _ _ | exact isS_c _ _ | exact isB_c _ _ | exact Nat.le_refl _ | assumption | exact mulLe (by decide) (by omega) | exact mulLe2 (by decide) (by omega) (by omega) | (intros; simp only [BL] at *; omega) | (intros; (try simp only [BL] at *); (try simp only [DL] at *); omega) | (intros; simp only [BL] at *; rw [wr_id (by omega) (by omega)]; omega) | (intro h1 h2; exact Bool.and_eq_true_iff.2 ⟨h1, h2⟩) | (intros; simp_all; done))); conv => whnf)
    | (refine Or.inr (And.intro rfl ?_); first | (refine congrArg intV ?_) | (refine congrArg boolV ?_) | (refine tupII ?_ ?_) | (refine tupIII ?_ ?_ ?_) | (refine tupU ?_ ?_ ?_ ?_ ?_) | exact rfl))
  · exact absurd trivial hb
  refine sem_loop tab_ok gamZ_ok mixed (by kernel_rfl) (O := lex) (fun i : Nat => ⟨[(13, intV i), (12, intV m), (0, .c (.sl 1 m (c1 x))), (1, .c (.sl 1 m (c1 y)))], []⟩) (fun i => i ≤ m) (fun i => m - i) ⟨0, [], Nat.zero_le _, ?_⟩ fun i hi => ?_
  · refine Sub.of ?_ ?_ ?_
    repeat' (first | (refine And.intro ?_ ?_) | exact trivial | exact fun _ _ _ => hsc _ _ | (exact congrArg intV (by first | with_reducible rfl | with_reducible assumption)) | exact (rfl : AV.idsLt _ _ = true) | exact (rfl : _ = AV.ren _ (.own _)) | exact (rfl : _ = AV.ren _ (.fn _ _)) | exact (rfl : _ = AV.ren _ (.gh _)) | (exact congrArg intV (by assumption)) | (refine congrArg intV ((wr_id (by omega) (by omega)).trans (by omega))) | exact rfl | (simp only [Int.toNat_natCast, Int.toNat_zero, Nat.sub_zero, Nat.zero_add]; first | exact rfl | done) | exact all0 | exact fun h => Bool.noConfusion h | exact fun _ _ _ _ => rfl | omega)
  conv => whnf
  repeat' (first
    | (refine NilG.mk fun bn hbn => ?_; conv => whnf)
    | (refine Both.mk ?_ ?_ <;> conv => whnf)
    | exact trivial
    | (refine Br.mk (fun hb => ?_) (fun hb => ?_) <;> (first | (exfalso; revert hb; decide) | ((try simp only [BL] at hb) <;> (try simp only [DL] at hb) <;> conv => whnf)))
    | (refine And.intro ?_ ?_; (focus (first | exact id | exact rfl | exact trivial | (intro hg; first | exact hg | exact rfl | (simp; done) | (simp at hg ⊢; assumption)) | omega | decide | exact is2_c _ _ _ | exact is1_c _ _ | exact isS_c _ _ | exact isB_c _ _ | exact Nat.le_refl _ | assumption | exact mulLe (by decide) (by omega) | exact mulLe2 (by decide) (by omega) (by omega) | (intros; simp only [BL] at *; omega) | (intros; (try simp only [BL] at *); (try simp only [DL] at *); omega) | (intros; simp only [BL] at *; rw [wr_id (by omega) (by omega)]; omega) | (intro h1 h2; exact Bool.and_eq_true_iff.2 ⟨h1, h2⟩) | (intros; simp_all; done))); conv => whnf)
    | (refine Or.inr (And.intro rfl ?_); first | (refine congrArg intV ?_) | (refine congrArg boolV ?_) | (refine tupII ?_ ?_) | (refine tupIII ?_ ?_ ?_) | (refine tupU ?_ ?_ ?_ ?_ ?_) | exact rfl))
  · exact absurd (he i (by omega)) hb
  · refine ⟨i + 1, [], by omega, by omega, ?_⟩
    refine Sub.of ?_ ?_ ?_
    repeat' (first | (refine And.intro ?_ ?_) | exact trivial | exact fun _ _ _ => hsc _ _ | (exact congrArg intV (by first | with_reducible rfl | with_reducible assumption)) | exact (rfl : AV.idsLt _ _ = true) | exact (rfl : _ = AV.ren _ (.own _)) | exact (rfl : _ = AV.ren _ (.fn _ _)) | exact (rfl : _ = AV.ren _ (.gh _)) | (exact congrArg intV (by assumption)) | (refine congrArg intV ((wr_id (by omega) (by omega)).trans (by omega))) | exact rfl | (simp only [Int.toNat_natCast, Int.toNat_zero, Nat.sub_zero, Nat.zero_add]; first | exact rfl | done) | exact all0 | exact fun h => Bool.noConfusion h | exact fun _ _ _ _ => rfl | omega)
  · rfl
def sDI : List AV → Sd × AV
  | [.c (.sl 1 n f), .c (.sl 1 m g)] => (.p (is1 n f ∧ is1 m g ∧ n ≤ 9000000 ∧ m = n ∧ ∀ i, i < n → d0 f i = d0 g i), boolV true)
  | _ => (.p False, .top)
def gamD4 : Gam := fun f => match f with
  | 22 => some (s3 inB)
  | 27 => some (sOi (fun _ n p q x => okOff n p q ∧ 0 ≤ x ∧ x ≤ 2000000) fun _ n p q x => intV (S (ct p q x) n))
  | 34 => some sDI
  | 40 => some (sCu cuZ fun u => intV (cuE u))
  | 39 => some (sCu cuZ fun u => intV (cuE u))
  | 42 => some (sBf S)
  | _ => none
theorem gamD4_ok : GOk Try.prog gamD4 := fun f g h => by
  unfold gamD4 at h
  split at h
  · injection h with h; subst h; exact s3_ok in3
  · injection h with h; subst h; exact sOi_ok offCost3
  · injection h with h; subst h
    intro args hs _
    unfold sDI at hs ⊢
    split at hs
    · exact (dSame _ _ _ _ hs.2.2).le (Le.cons (Le1.sl hs.1) (Le.cons (Le1.sl hs.2.1) Le.nil))
    · exact hs.elim
  · injection h with h; subst h; exact sCu_ok duCheck
  · injection h with h; subst h; exact sCu_ok comErr
  · injection h with h; subst h; exact before_ok
  · cases h
theorem dAlone : Fn1 Try.prog 38 [] (cuV dU) := by
  refine fn_of_wpx (O := lex) tab_ok gamD4_ok mixed Try.func38 (by kernel_rfl) rfl rfl rfl (by simp [Try.ntmps38]) (by kernel_rfl) ?_
  conv => whnf
  repeat' (first
    | (refine NilG.mk fun bn hbn => ?_; conv => whnf)
    | (refine Both.mk ?_ ?_ <;> conv => whnf)
    | exact trivial
    | (refine Br.mk (fun hb => ?_) (fun hb => ?_) <;> (first | (exfalso; revert hb; decide) | ((try simp only [BL] at hb) <;> (try simp only [DL] at hb) <;> conv => whnf)))
    | (refine And.intro ?_ ?_; (focus (first | exact id | exact rfl | exact trivial | (intro hg; first | exact hg | exact rfl | (simp; done) | (simp at hg ⊢; assumption)) | omega | decide | exact is2_c _ _ _ | exact is1_c _ _ | exact isS_c _ _ | exact isB_c _ _ | exact Nat.le_refl _ | assumption | exact mulLe (by decide) (by omega) | exact mulLe2 (by decide) (by omega) (by omega) | (intros; simp only [BL] at *; omega) | (intros; (try simp only [BL] at *); (try simp only [DL] at *); omega) | (intros; simp only [BL] at *; rw [wr_id (by omega) (by omega)]; omega) | (intro h1 h2; exact Bool.and_eq_true_iff.2 ⟨h1, h2⟩) | (intros; simp_all; done))); conv => whnf)
    | (refine Or.inr (And.intro rfl ?_); first | (refine congrArg intV ?_) | (refine congrArg boolV ?_) | (refine tupII ?_ ?_) | (refine tupIII ?_ ?_ ?_) | (refine tupU ?_ ?_ ?_ ?_ ?_) | exact rfl))
  refine CallG.mk (Fn.mono (two _) ?_)
  rintro obs r ⟨rfl, rfl⟩
  conv => whnf
  repeat' (first
    | (refine NilG.mk fun bn hbn => ?_; conv => whnf)
    | (refine Both.mk ?_ ?_ <;> conv => whnf)
    | exact trivial
    | (refine Br.mk (fun hb => ?_) (fun hb => ?_) <;> (first | (exfalso; revert hb; decide) | ((try simp only [BL] at hb) <;> (try simp only [DL] at hb) <;> conv => whnf)))
    | (refine And.intro ?_ ?_; (focus (first | exact id | exact rfl | exact trivial | (intro hg; first | exact hg | exact rfl | (simp; done) | (simp at hg ⊢; assumption)) | omega | decide | exact is2_c _ _ _ | exact is1_c _ _ | exact isS_c _ _ | exact isB_c _ _ | exact Nat.le_refl _ | assumption | exact mulLe (by decide) (by omega) | exact mulLe2 (by decide) (by omega) (by omega) | (intros; simp only [BL] at *; omega) | (intros; (try simp only [BL] at *); (try simp only [DL] at *); omega) | (intros; simp only [BL] at *; rw [wr_id (by omega) (by omega)]; omega) | (intro h1 h2; exact Bool.and_eq_true_iff.2 ⟨h1, h2⟩) | (intros; simp_all; done))); conv => whnf)
    | (refine Or.inr (And.intro rfl ?_); first | (refine congrArg intV ?_) | (refine congrArg boolV ?_) | (refine tupII ?_ ?_) | (refine tupIII ?_ ?_ ?_) | (refine tupU ?_ ?_ ?_ ?_ ?_) | exact rfl))
/-- the patterns, row by row -/
def patR' (u : CuR) (n : Nat) (A : List Nat) : Nat → Nat → L := fun k _ => .sl 1 (n + 1) (c1 fun t => if t < n then bt (A.getD k 0) t else pCo u n (A.getD k 0))
theorem patt' (u : CuR) (n : Nat) (hn : n ≤ 6) (hu : staE u.r u.on u.si u.po = 0) : Fn Try.prog 41 [cuV u, intV n] (fun obs v => obs = [] ∧ v = .c (.sl 1 (dgL (pOk u n) (2 ^ n)).length (patR' u n (dgL (pOk u n) (2 ^ n))))) :=
  (patt u n hn hu).res fun obs r ⟨h1, h2⟩ => by
    subst h2
    refine ⟨_, ⟨h1, rfl⟩, Le1.l (LLe.sl fun k hk j hj => LLe.sl fun t ht z hz => ?_)⟩
    obtain rfl : z = 0 := by omega
    refine LLe.of_eq ?_
    show (if t < n then iL (bt _ t) else [iL (pCo u n _)][(t - n) * 1 + 0]?.getD (L.v undef)) = iL (if t < n then bt _ t else pCo u n _)
    by_cases h : t < n
    · rw [if_pos h, if_pos h]
    · rw [if_neg h, if_neg h, show (t - n) * 1 + 0 = 0 by omega]
      rfl
theorem dgL_ok {ok : Nat → Bool} : ∀ {N k : Nat}, k < (dgL ok N).length → ok ((dgL ok N).getD k 0) = true
  | 0, k, h => absurd h (Nat.not_lt_zero _)
  | N + 1, k, h => by
    simp only [dgL] at h ⊢
    split at h
    · rename_i ho
      rw [if_pos ho]
      by_cases hk : k < (dgL ok N).length
      · rw [List.getD_eq_getElem?_getD, List.getElem?_append_left hk, ← List.getD_eq_getElem?_getD]
        exact dgL_ok hk
      · have : k = (dgL ok N).length := by simp at h; omega
        rw [this, List.getD_eq_getElem?_getD, List.getElem?_append_right (Nat.le_refl _), Nat.sub_self]
        exact ho
    · rename_i ho
      rw [if_neg ho]
      exact dgL_ok h
/-- the law's error after i prices -/
def wE (u : CuR) (x : Nat → Int) (i : Nat) : Int := if cuE u ≠ 0 then cuE u else fst (fun k => if badPr (x k) = true then 4 else 0) i
theorem wE_all (u : CuR) (x : Nat → Int) (n : Nat) : wE u x n = dsE u n x := by
  unfold wE dsE
  rw [fst_fidx]
theorem wE_bad {u : CuR} {x : Nat → Int} {i : Nat} (h0 : wE u x i = 0) (hb : badPr (x i) = true) : 4 = wE u x (i + 1) := by
  unfold wE at h0 ⊢
  split at h0
  · rename_i h; exact absurd h0 h
  · rename_i h
    rw [if_neg h]
    simp only [fst]
    rw [if_neg (fun hh => hh h0), if_pos hb]
theorem wE_ok {u : CuR} {x : Nat → Int} {i : Nat} (h : wE u x i ≠ 0 ∨ badPr (x i) = false) : wE u x i = wE u x (i + 1) := by
  unfold wE at h ⊢
  split
  · rfl
  · rename_i h1
    rw [if_neg h1] at h
    simp only [fst]
    split
    · rfl
    · rename_i h2
      rcases h with h | h
      · exact absurd h h2
      · rw [h]
        simpa using h2
set_option maxHeartbeats 4000000 in
theorem dsLaw (u : CuR) (x : Nat → Int) (n : Nat) (hz : cuZ u) (hn : n ≤ maxLen) : Fn1 Try.prog 7 [cuV u, .c (.sl 1 n (c1 x))] (boolV true) := by
  refine fn_of_wpx (O := lex) tab_ok gamD4_ok mixed Try.func7 (by kernel_rfl) rfl rfl rfl (by simp [Try.ntmps7]) (by kernel_rfl) ?_
  conv => whnf
  repeat' (first
    | (refine NilG.mk fun bn hbn => ?_; conv => whnf)
    | (refine Both.mk ?_ ?_ <;> conv => whnf)
    | exact trivial
    | (refine Br.mk (fun hb => ?_) (fun hb => ?_) <;> (first | (exfalso; revert hb; decide) | ((try simp only [BL] at hb) <;> (try simp only [DL] at hb) <;> conv => whnf)))
    | (refine And.intro ?_ ?_; (focus (first | exact id | exact rfl | exact trivial | (intro hg; first | exact hg | exact rfl | (simp; done) | (simp at hg ⊢; assumption)) | omega | decide | exact is2_c _ _ _ | exact is1_c _ _ | exact isS_c _ _ | exact isB_c _ _ | exact Nat.le_refl _ | assumption | exact mulLe (by decide) (by omega) | exact mulLe2 (by decide) (by omega) (by omega) | (intros; simp only [BL] at *; omega) | (intros; (try simp only [BL] at *); (try simp only [DL] at *); omega) | (intros; simp only [BL] at *; rw [wr_id (by omega) (by omega)]; omega) | (intro h1 h2; exact Bool.and_eq_true_iff.2 ⟨h1, h2⟩) | (intros; simp_all; done))); conv => whnf)
    | (refine Or.inr (And.intro rfl ?_); first | (refine congrArg intV ?_) | (refine congrArg boolV ?_) | (refine tupII ?_ ?_) | (refine tupIII ?_ ?_ ?_) | (refine tupU ?_ ?_ ?_ ?_ ?_) | exact rfl))
  refine CallG.mk (Fn.mono dAlone ?_)
  rintro obs r ⟨rfl, rfl⟩
  conv => whnf
  repeat' (first
    | (refine NilG.mk fun bn hbn => ?_; conv => whnf)
    | (refine Both.mk ?_ ?_ <;> conv => whnf)
    | exact trivial
    | (refine Br.mk (fun hb => ?_) (fun hb => ?_) <;> (first | (exfalso; revert hb; decide) | ((try simp only [BL] at hb) <;> (try simp only [DL] at hb) <;> conv => whnf)))
    | (refine And.intro ?_ ?_; (focus (first | exact id | exact rfl | exact trivial | (intro hg; first | exact hg | exact rfl | (simp; done) | (simp at hg ⊢; assumption)) | omega | decide | exact is2_c _ _ _ | exact is1_c _ _ | exact isS_c _ _ | exact isB_c _ _ | exact Nat.le_refl _ | assumption | exact mulLe (by decide) (by omega) | exact mulLe2 (by decide) (by omega) (by omega) | (intros; simp only [BL] at *; omega) | (intros; (try simp only [BL] at *); (try simp only [DL] at *); omega) | (intros; simp only [BL] at *; rw [wr_id (by omega) (by omega)]; omega) | (intro h1 h2; exact Bool.and_eq_true_iff.2 ⟨h1, h2⟩) | (intros; simp_all; done))); conv => whnf)
    | (refine Or.inr (And.intro rfl ?_); first | (refine congrArg intV ?_) | (refine congrArg boolV ?_) | (refine tupII ?_ ?_) | (refine tupIII ?_ ?_ ?_) | (refine tupU ?_ ?_ ?_ ?_ ?_) | exact rfl))
  refine CallG.mk (Fn.mono ((duSingleR dU (fun _ => 0) 1 (by decide) ⟨by decide, by decide, by decide⟩).le (Le.cons (Le1.refl _) (Le.cons (Le1.sl fun k hk j hj => ?_) Le.nil))) ?_)
  · have hk : k < 1 := hk
    have hj : j < 1 := hj
    obtain rfl : j = 0 := by omega
    obtain rfl : k = 0 := by omega
    rfl
  rintro obs r ⟨rfl, K, f, c, rfl, _, hz1⟩
  obtain ⟨g1, g2, g3⟩ := hz1 d_ds
  rw [d_dg.1] at g1 g3
  obtain rfl : K = 1 := g1
  obtain rfl : c = 0 := g3
  rw [d_ds]
  clear hz1
  have hf : f = c1 fun k => if k < 1 then pw (dP dU fun _ => 0) 0 k else 0 := by
    rw [g2]
    unfold bestF
    rw [d_dg.1, d_dg.2]
    rfl
  subst hf
  clear g2
  conv => whnf
  repeat' (first
    | (refine NilG.mk fun bn hbn => ?_; conv => whnf)
    | (refine Both.mk ?_ ?_ <;> conv => whnf)
    | exact trivial
    | (refine Br.mk (fun hb => ?_) (fun hb => ?_) <;> (first | (exfalso; revert hb; decide) | ((try simp only [BL] at hb) <;> (try simp only [DL] at hb) <;> conv => whnf)))
    | (refine And.intro ?_ ?_; (focus (first | exact id | exact rfl | exact trivial | (intro hg; first | exact hg | exact rfl | (simp; done) | (simp at hg ⊢; assumption)) | omega | decide | exact is2_c _ _ _ | exact is1_c _ _ | exact isS_c _ _ | exact isB_c _ _ | exact Nat.le_refl _ | assumption | exact mulLe (by decide) (by omega) | exact mulLe2 (by decide) (by omega) (by omega) | (intros; simp only [BL] at *; omega) | (intros; (try simp only [BL] at *); (try simp only [DL] at *); omega) | (intros; simp only [BL] at *; rw [wr_id (by omega) (by omega)]; omega) | (intro h1 h2; exact Bool.and_eq_true_iff.2 ⟨h1, h2⟩) | (intros; simp_all; done))); conv => whnf)
    | (refine Or.inr (And.intro rfl ?_); first | (refine congrArg intV ?_) | (refine congrArg boolV ?_) | (refine tupII ?_ ?_) | (refine tupIII ?_ ?_ ?_) | (refine tupU ?_ ?_ ?_ ?_ ?_) | exact rfl))
  refine And.intro (fun hg => ?_) (fun hg => absurd hg (by decide))
  conv => whnf
  conv => whnf
  repeat' (first
    | (refine NilG.mk fun bn hbn => ?_; conv => whnf)
    | (refine Both.mk ?_ ?_ <;> conv => whnf)
    | exact trivial
    | (refine Br.mk (fun hb => ?_) (fun hb => ?_) <;> (first | (exfalso; revert hb; decide) | ((try simp only [BL] at hb) <;> (try simp only [DL] at hb) <;> conv => whnf)))
    | (refine And.intro ?_ ?_; (focus (first | exact id | exact rfl | exact trivial | (intro hg; first | exact hg | exact rfl | (simp; done) | (simp at hg ⊢; assumption)) | omega | decide | exact is2_c _ _ _ | exact is1_c _ _ | exact isS_c _ _ | exact isB_c _ _ | exact Nat.le_refl _ | assumption | exact mulLe (by decide) (by omega) | exact mulLe2 (by decide) (by omega) (by omega) | (intros; simp only [BL] at *; omega) | (intros; (try simp only [BL] at *); (try simp only [DL] at *); omega) | (intros; simp only [BL] at *; rw [wr_id (by omega) (by omega)]; omega) | (intro h1 h2; exact Bool.and_eq_true_iff.2 ⟨h1, h2⟩) | (intros; simp_all; done))); conv => whnf)
    | (refine Or.inr (And.intro rfl ?_); first | (refine congrArg intV ?_) | (refine congrArg boolV ?_) | (refine tupII ?_ ?_) | (refine tupIII ?_ ?_ ?_) | (refine tupU ?_ ?_ ?_ ?_ ?_) | exact rfl))
  refine And.intro (fun _ => ⟨is1_c _ _, fun k hk j hj => ?_, by decide, rfl, fun i hi => ?_⟩) ?_
  · have hk : k < 1 := hk
    have hj : j < 1 := hj
    obtain rfl : j = 0 := by omega
    obtain rfl : k = 0 := by omega
    rfl
  · obtain rfl : i = 0 := by omega
    exact d_row
  conv => whnf
  repeat' (first
    | (refine NilG.mk fun bn hbn => ?_; conv => whnf)
    | (refine Both.mk ?_ ?_ <;> conv => whnf)
    | exact trivial
    | (refine Br.mk (fun hb => ?_) (fun hb => ?_) <;> (first | (exfalso; revert hb; decide) | ((try simp only [BL] at hb) <;> (try simp only [DL] at hb) <;> conv => whnf)))
    | (refine And.intro ?_ ?_; (focus (first | exact id | exact rfl | exact trivial | (intro hg; first | exact hg | exact rfl | (simp; done) | (simp at hg ⊢; assumption)) | omega | decide | exact is2_c _ _ _ | exact is1_c _ _ | exact isS_c _ _ | exact isB_c _ _ | exact Nat.le_refl _ | assumption | exact mulLe (by decide) (by omega) | exact mulLe2 (by decide) (by omega) (by omega) | (intros; simp only [BL] at *; omega) | (intros; (try simp only [BL] at *); (try simp only [DL] at *); omega) | (intros; simp only [BL] at *; rw [wr_id (by omega) (by omega)]; omega) | (intro h1 h2; exact Bool.and_eq_true_iff.2 ⟨h1, h2⟩) | (intros; simp_all; done))); conv => whnf)
    | (refine Or.inr (And.intro rfl ?_); first | (refine congrArg intV ?_) | (refine congrArg boolV ?_) | (refine tupII ?_ ?_) | (refine tupIII ?_ ?_ ?_) | (refine tupU ?_ ?_ ?_ ?_ ?_) | exact rfl))
  iterate 2
    · (first
        | (have hb6 : (n : Int) > 6 := hb
           generalize hN : Int.toNat 6 - Int.toNat 0 = N
           have hN6 : N ≤ 6 := by rw [← hN]; decide
           rw [show (fun k j => c1 x (Int.toNat 0 + k) j) = c1 x from by funext k j; rw [Int.toNat_zero, Nat.zero_add]])
        | (have hN6 : n ≤ 6 := by omega
           generalize hN : n = N at *))
      clear hb hN
      refine CallG.mk (Fn.mono (duSingleR u x N hN6 hz) ?_)
      rintro obs r ⟨rfl, K, f, c, rfl, hz0, hz1⟩
      generalize hdE : dsE u N x = E at *
      conv => whnf
      repeat' (first
        | (refine NilG.mk fun bn hbn => ?_; conv => whnf)
        | (refine Both.mk ?_ ?_ <;> conv => whnf)
        | exact trivial
        | (refine Br.mk (fun hb => ?_) (fun hb => ?_) <;> (first | (exfalso; revert hb; decide) | ((try simp only [BL] at hb) <;> (try simp only [DL] at hb) <;> conv => whnf)))
        | (refine And.intro ?_ ?_; (focus (first | exact id | exact rfl | exact trivial | (intro hg; first | exact hg | exact rfl | (simp; done) | (simp at hg ⊢; assumption)) | omega | decide | exact is2_c _ _ _ | exact is1_c _ _ | exact isS_c _ _ | exact isB_c _ _ | exact Nat.le_refl _ | assumption | exact mulLe (by decide) (by omega) | exact mulLe2 (by decide) (by omega) (by omega) | (intros; simp only [BL] at *; omega) | (intros; (try simp only [BL] at *); (try simp only [DL] at *); omega) | (intros; simp only [BL] at *; rw [wr_id (by omega) (by omega)]; omega) | (intro h1 h2; exact Bool.and_eq_true_iff.2 ⟨h1, h2⟩) | exact ⟨is2_c _ _ _, hz⟩ | (intros; simp_all; done))); conv => whnf)
        | (refine Or.inr (And.intro rfl ?_); first | (refine congrArg intV ?_) | (refine congrArg boolV ?_) | (refine tupII ?_ ?_) | (refine tupIII ?_ ?_ ?_) | (refine tupU ?_ ?_ ?_ ?_ ?_) | exact rfl))
      · exact absurd trivial hb
      clear hb
      have ew : cuE u = wE u x 0 := by
        unfold wE
        split
        · rfl
        · rename_i h
          exact (by simpa using h : cuE u = 0)
      refine sem_loop tab_ok gamD4_ok mixed (by kernel_rfl) (O := lex) (fun i : Nat => ⟨[(1, .c (.sl 1 N (c1 x))), (2, .lp 0 0), (8, .c (.sl 1 K f)), (9, intV c), (10, intV E), (11, intV (wE u x i)), (67, .c (.sl 1 N (c1 x))), (68, intV N), (69, intV i)], [.box [strV u.r.nm, intV u.r.le, intV u.r.mo, intV u.r.up, intV u.r.dn, intV u.r.mi, intV u.r.mf, intV u.r.st, strV u.s, .c (.sl 2 u.m (c2 u.p u.q)), boolV u.on, intV u.si, intV u.po]]⟩) (fun i => i ≤ N) (fun i => N - i) ⟨0, [?_], Nat.zero_le _, ?_⟩ fun i hi => ?_
      rotate_left 1
      · refine Sub.of ?_ ?_ ?_
        repeat' (first | (refine And.intro ?_ ?_) | exact trivial | exact fun _ _ _ => hsc _ _ | (exact congrArg intV (by first | with_reducible rfl | with_reducible assumption)) | exact (rfl : AV.idsLt _ _ = true) | exact (rfl : _ = AV.ren _ (.own _)) | exact (rfl : _ = AV.ren _ (.fn _ _)) | exact (rfl : _ = AV.ren _ (.gh _)) | (exact congrArg intV (by assumption)) | (refine congrArg intV ((wr_id (by omega) (by omega)).trans (by omega))) | exact rfl | (simp only [Int.toNat_natCast, Int.toNat_zero, Nat.sub_zero, Nat.zero_add]; first | exact rfl | done) | exact all0 | exact fun h => Bool.noConfusion h | exact fun _ _ _ _ => rfl | omega)
      conv => whnf
      repeat' (first
        | (refine NilG.mk fun bn hbn => ?_; conv => whnf)
        | (refine Both.mk ?_ ?_ <;> conv => whnf)
        | exact trivial
        | (refine Br.mk (fun hb => ?_) (fun hb => ?_) <;> (first | (exfalso; revert hb; decide) | ((try simp only [BL] at hb) <;> (try simp only [DL] at hb) <;> conv => whnf)))
        | (refine And.intro ?_ ?_; (focus (first | exact id | exact rfl | exact trivial | (intro hg; first | exact hg | exact rfl | (simp; done) | (simp at hg ⊢; assumption)) | omega | decide | exact is2_c _ _ _ | exact is1_c _ _ | exact isS_c _ _ | exact isB_c _ _ | exact Nat.le_refl _ | assumption | exact mulLe (by decide) (by omega) | exact mulLe2 (by decide) (by omega) (by omega) | (intros; simp only [BL] at *; omega) | (intros; (try simp only [BL] at *); (try simp only [DL] at *); omega) | (intros; simp only [BL] at *; rw [wr_id (by omega) (by omega)]; omega) | (intro h1 h2; exact Bool.and_eq_true_iff.2 ⟨h1, h2⟩) | (intros; simp_all; done))); conv => whnf)
        | (refine Or.inr (And.intro rfl ?_); first | (refine congrArg intV ?_) | (refine congrArg boolV ?_) | (refine tupII ?_ ?_) | (refine tupIII ?_ ?_ ?_) | (refine tupU ?_ ?_ ?_ ?_ ?_) | exact rfl))
      · have e4 := wE_bad (u := u) (x := x) (i := i) hb.1 (by simp only [badPr, BL]; omega)
        refine ⟨i + 1, [?_], by omega, by omega, ?_⟩
        rotate_left 1
        refine Sub.of ?_ ?_ ?_
        repeat' (first | (refine And.intro ?_ ?_) | exact trivial | exact fun _ _ _ => hsc _ _ | (exact congrArg intV (by first | with_reducible rfl | with_reducible assumption)) | exact (rfl : AV.idsLt _ _ = true) | exact (rfl : _ = AV.ren _ (.own _)) | exact (rfl : _ = AV.ren _ (.fn _ _)) | exact (rfl : _ = AV.ren _ (.gh _)) | (exact congrArg intV (by assumption)) | (refine congrArg intV ((wr_id (by omega) (by omega)).trans (by omega))) | exact rfl | (simp only [Int.toNat_natCast, Int.toNat_zero, Nat.sub_zero, Nat.zero_add]; first | exact rfl | done) | exact all0 | exact fun h => Bool.noConfusion h | exact fun _ _ _ _ => rfl | omega)
      · have e4 := wE_ok (u := u) (x := x) (i := i) (by
          rcases hb with h | h
          · exact .inl h
          · exact .inr (by simp only [badPr, BL]; omega))
        refine ⟨i + 1, [?_], by omega, by omega, ?_⟩
        rotate_left 1
        refine Sub.of ?_ ?_ ?_
        repeat' (first | (refine And.intro ?_ ?_) | exact trivial | exact fun _ _ _ => hsc _ _ | (exact congrArg intV (by first | with_reducible rfl | with_reducible assumption)) | exact (rfl : AV.idsLt _ _ = true) | exact (rfl : _ = AV.ren _ (.own _)) | exact (rfl : _ = AV.ren _ (.fn _ _)) | exact (rfl : _ = AV.ren _ (.gh _)) | (exact congrArg intV (by assumption)) | (refine congrArg intV ((wr_id (by omega) (by omega)).trans (by omega))) | exact rfl | (simp only [Int.toNat_natCast, Int.toNat_zero, Nat.sub_zero, Nat.zero_add]; first | exact rfl | done) | exact all0 | exact fun h => Bool.noConfusion h | exact fun _ _ _ _ => rfl | omega)
      · have hiN : i = N := by omega
        have hw := wE_all u x N
        rw [hdE] at hw
        rw [hiN] at hb ⊢
        obtain ⟨rfl, rfl⟩ := hz0 (by rw [← hw]; exact hb)
        rw [hw]
        simp
      have hiN : i = N := by omega
      have hw := wE_all u x N
      rw [hdE] at hw
      rw [hiN] at hb
      have hE0 : E = 0 := by rw [← hw]; exact hb
      rw [hE0] at hz1 hdE
      obtain ⟨k1, k2, k3⟩ := hz1 rfl
      obtain ⟨hu, hx⟩ := dsE_zero hdE
      obtain ⟨v0, v1, v2, v3, v4, v5, v6, v7⟩ := cuE_all hu
      have hfo := dg_found hu x hN6
      obtain ⟨a1, a2, a3⟩ := dg_at hfo
      rw [hfo] at k1
      obtain rfl : K = N := k1
      have hf : f = c1 fun k => if k < K then pw (dP u x) (dgI (pOk u K) (dV u x K) (2 ^ K)) k else 0 := by
        rw [k2]
        unfold bestF
        rw [hfo]
        rfl
      rw [hf, hE0]
      clear hf k2 hz0 hz1 hdE hw hb hiN hE0
      refine CallG.mk (Fn.mono (patt' u K hN6 v0) ?_)
      rintro obs r ⟨rfl, rfl⟩
      have hAo : ∀ k, k < (dgL (pOk u K) (2 ^ K)).length → pOk u K ((dgL (pOk u K) (2 ^ K)).getD k 0) = true := fun k hk => dgL_ok hk
      have hAl := dgL_len (pOk u K) (2 ^ K)
      have hp64 := (two_pow K hN6).2
      have hAf := dgF_list (pOk u K) (dV u x K) (2 ^ K)
      conv => whnf
      repeat' (first
        | (refine NilG.mk fun bn hbn => ?_; conv => whnf)
        | (refine Both.mk ?_ ?_ <;> conv => whnf)
        | exact trivial
        | (refine Br.mk (fun hb => ?_) (fun hb => ?_) <;> (first | (exfalso; revert hb; decide) | ((try simp only [BL] at hb) <;> (try simp only [DL] at hb) <;> conv => whnf)))
        | (refine And.intro ?_ ?_; (focus (first | exact id | exact rfl | exact trivial | (intro hg; first | exact hg | exact rfl | (simp; done) | (simp at hg ⊢; assumption)) | omega | decide | exact is2_c _ _ _ | exact is1_c _ _ | exact isS_c _ _ | exact isB_c _ _ | exact Nat.le_refl _ | assumption | exact mulLe (by decide) (by omega) | exact mulLe2 (by decide) (by omega) (by omega) | (intros; simp only [BL] at *; omega) | (intros; (try simp only [BL] at *); (try simp only [DL] at *); omega) | (intros; simp only [BL] at *; rw [wr_id (by omega) (by omega)]; omega) | (intro h1 h2; exact Bool.and_eq_true_iff.2 ⟨h1, h2⟩) | (intros; simp_all; done))); conv => whnf)
        | (refine Or.inr (And.intro rfl ?_); first | (refine congrArg intV ?_) | (refine congrArg boolV ?_) | (refine tupII ?_ ?_) | (refine tupIII ?_ ?_ ?_) | (refine tupU ?_ ?_ ?_ ?_ ?_) | exact rfl))
      generalize dgL (pOk u K) (2 ^ K) = A at *
      refine sem_loop tab_ok gamD4_ok mixed (by kernel_rfl) (O := lex) (fun k : Nat => ⟨[(1, .c (.sl 1 K (c1 x))), (2, .lp 0 0), (8, .c (.sl 1 K (c1 fun k => if k < K then pw (dP u x) (dgI (pOk u K) (dV u x K) (2 ^ K)) k else 0))), (9, intV c), (10, intV 0), (14, intV (dgF (fun _ => true) (fun k => dV u x K (A.getD k 0)) k).1), (15, boolV (dgF (fun _ => true) (fun k => dV u x K (A.getD k 0)) k).2), (98, .c (.sl 1 A.length (patR' u K A))), (99, intV A.length), (100, intV k)], [.box [strV u.r.nm, intV u.r.le, intV u.r.mo, intV u.r.up, intV u.r.dn, intV u.r.mi, intV u.r.mf, intV u.r.st, strV u.s, .c (.sl 2 u.m (c2 u.p u.q)), boolV u.on, intV u.si, intV u.po]]⟩) (fun k => k ≤ A.length) (fun k => A.length - k) ⟨0, [?_], Nat.zero_le _, ?_⟩ fun k hk0 => ?_
      rotate_left 1
      · refine Sub.of ?_ ?_ ?_
        repeat' (first | (refine And.intro ?_ ?_) | exact trivial | exact fun _ _ _ => hsc _ _ | (exact congrArg intV (by first | with_reducible rfl | with_reducible assumption)) | exact (rfl : AV.idsLt _ _ = true) | exact (rfl : _ = AV.ren _ (.own _)) | exact (rfl : _ = AV.ren _ (.fn _ _)) | exact (rfl : _ = AV.ren _ (.gh _)) | (exact congrArg intV (by assumption)) | (refine congrArg intV ((wr_id (by omega) (by omega)).trans (by omega))) | exact rfl | (simp only [Int.toNat_natCast, Int.toNat_zero, Nat.sub_zero, Nat.zero_add]; first | exact rfl | done) | exact all0 | exact fun h => Bool.noConfusion h | exact fun _ _ _ _ => rfl | omega)
      have hSb := fun b z (hz : z ≤ K) => S_le (p := fun t => if bt b t = 1 then dG u x t else 0) (a := -2000000000000) (b := 2000000000000) (k := z) fun j hj => by
        have := dG_b hu x (hx j (by omega))
        (try dsimp only)
        split <;> omega
      conv => whnf
      repeat' (first
        | (refine NilG.mk fun bn hbn => ?_; conv => whnf)
        | (refine Both.mk ?_ ?_ <;> conv => whnf)
        | exact trivial
        | (refine Br.mk (fun hb => ?_) (fun hb => ?_) <;> (first | (exfalso; revert hb; decide) | ((try simp only [BL] at hb) <;> (try simp only [DL] at hb) <;> conv => whnf)))
        | (refine And.intro ?_ ?_; (focus (first | exact id | exact rfl | exact trivial | (intro hg; first | exact hg | exact rfl | (simp; done) | (simp at hg ⊢; assumption)) | omega | decide | exact is2_c _ _ _ | exact is1_c _ _ | exact isS_c _ _ | exact isB_c _ _ | exact Nat.le_refl _ | assumption | exact mulLe (by decide) (by omega) | exact mulLe2 (by decide) (by omega) (by omega) | (intros; simp only [BL] at *; omega) | (intros; (try simp only [BL] at *); (try simp only [DL] at *); omega) | (intros; simp only [BL] at *; rw [wr_id (by omega) (by omega)]; omega) | (intro h1 h2; exact Bool.and_eq_true_iff.2 ⟨h1, h2⟩) | (intros; simp_all; done))); conv => whnf)
        | (refine Or.inr (And.intro rfl ?_); first | (refine congrArg intV ?_) | (refine congrArg boolV ?_) | (refine tupII ?_ ?_) | (refine tupIII ?_ ?_ ?_) | (refine tupU ?_ ?_ ?_ ?_ ?_) | exact rfl))
      · have hkA : k < A.length := by omega
        have hbo := hAo k hkA
        have hstep : dgF (fun _ => true) (fun k => dV u x K (A.getD k 0)) (k + 1) = if true = true ∧ ((dgF (fun _ => true) (fun k => dV u x K (A.getD k 0)) k).2 = false ∨ dV u x K (A.getD k 0) > (dgF (fun _ => true) (fun k => dV u x K (A.getD k 0)) k).1) then (dV u x K (A.getD k 0), true) else dgF (fun _ => true) (fun k => dV u x K (A.getD k 0)) k := rfl
        have hco := pCo_b v0 hbo
        have e18 : IntKind.i64.wrap (0 - if K < K then bt (A.getD k 0) K else pCo u K (A.getD k 0)) = S (fun t => if bt (A.getD k 0) t = 1 then dG u x t else 0) 0 - pCo u K (A.getD k 0) := by
          rw [if_neg (Nat.lt_irrefl K)]
          exact wr_id (by omega) (by omega)
        refine sem_loop tab_ok gamD4_ok mixed (by kernel_rfl) (O := lex) (fun t : Nat => ⟨[(1, .c (.sl 1 K (c1 x))), (2, .lp 0 0), (8, .c (.sl 1 K (c1 fun k => if k < K then pw (dP u x) (dgI (pOk u K) (dV u x K) (2 ^ K)) k else 0))), (9, intV c), (10, intV 0), (14, intV (dgF (fun _ => true) (fun k => dV u x K (A.getD k 0)) k).1), (15, boolV (dgF (fun _ => true) (fun k => dV u x K (A.getD k 0)) k).2), (17, .c (.sl 1 (K + 1) (c1 fun t => if t < K then bt (A.getD k 0) t else pCo u K (A.getD k 0)))), (18, intV (S (fun t => if bt (A.getD k 0) t = 1 then dG u x t else 0) t - pCo u K (A.getD k 0))), (98, .c (.sl 1 A.length (patR' u K A))), (99, intV A.length), (100, intV k), (110, .c (.sl 1 K (c1 x))), (111, intV K), (112, intV t)], [.box [strV u.r.nm, intV u.r.le, intV u.r.mo, intV u.r.up, intV u.r.dn, intV u.r.mi, intV u.r.mf, intV u.r.st, strV u.s, .c (.sl 2 u.m (c2 u.p u.q)), boolV u.on, intV u.si, intV u.po]]⟩) (fun t => t ≤ K) (fun t => K - t) ⟨0, [?_], Nat.zero_le _, ?_⟩ fun t ht => ?_
        rotate_left 1
        · refine Sub.of ?_ ?_ ?_
          repeat' (first | (refine And.intro ?_ ?_) | exact trivial | exact fun _ _ _ => hsc _ _ | (exact congrArg intV (by first | with_reducible rfl | with_reducible assumption)) | exact (rfl : AV.idsLt _ _ = true) | exact (rfl : _ = AV.ren _ (.own _)) | exact (rfl : _ = AV.ren _ (.fn _ _)) | exact (rfl : _ = AV.ren _ (.gh _)) | (exact congrArg intV (by assumption)) | (refine congrArg intV ((wr_id (by omega) (by omega)).trans (by omega))) | exact rfl | (simp only [Int.toNat_natCast, Int.toNat_zero, Nat.sub_zero, Nat.zero_add]; first | exact rfl | done) | exact all0 | exact fun h => Bool.noConfusion h | exact fun _ _ _ _ => rfl | omega)
        have hle : 0 ≤ u.r.le ∧ u.r.le ≤ u.r.mo ∧ u.r.mo ≤ 100000 := by
          unfold okR at v1
          omega
        have hCe := fun y => C_le v3 y (Nat.le_refl _)
        have hm12 := v3.1
        conv => whnf
        repeat' (first
          | (refine NilG.mk fun bn hbn => ?_; conv => whnf)
          | (refine Both.mk ?_ ?_ <;> conv => whnf)
          | exact trivial
          | (refine Br.mk (fun hb => ?_) (fun hb => ?_) <;> (first | (exfalso; revert hb; decide) | ((try simp only [BL] at hb) <;> (try simp only [DL] at hb) <;> conv => whnf)))
          | (refine And.intro ?_ ?_; (focus (first | exact id | exact rfl | exact trivial | (intro hg; first | exact hg | exact rfl | (simp; done) | (simp at hg ⊢; assumption)) | omega | decide | exact is2_c _ _ _ | exact is1_c _ _ | exact isS_c _ _ | exact isB_c _ _ | exact Nat.le_refl _ | assumption | exact mulLe (by decide) (by omega) | exact mulLe2 (by decide) (by omega) (by omega) | (intros; simp only [BL] at *; omega) | (intros; (try simp only [BL] at *); (try simp only [DL] at *); omega) | (intros; simp only [BL] at *; rw [wr_id (by omega) (by omega)]; omega) | (intro h1 h2; exact Bool.and_eq_true_iff.2 ⟨h1, h2⟩) | exact ⟨is2_c _ _ _, v3, hle.1, by have := hle.2; omega⟩ | (intros; simp_all; done))); conv => whnf)
          | (refine Or.inr (And.intro rfl ?_); first | (refine congrArg intV ?_) | (refine congrArg boolV ?_) | (refine tupII ?_ ?_) | (refine tupIII ?_ ?_ ?_) | (refine tupU ?_ ?_ ?_ ?_ ?_) | exact rfl))
        · have htK : t < K := by omega
          have hbt : bt (A.getD k 0) t = 1 := by
            have h := hb
            rw [if_pos htK] at h
            exact h
          have hxt := hx t htK
          have hmul := fun y (h : 0 ≤ y ∧ y ≤ 100000) => mulB (a := y) (b := x t) (A := 100000) (B := 2000000) h.1 h.2 (by omega) (by omega) (by omega)
          have e21 : IntKind.i64.wrap (IntKind.i64.wrap (x t * u.r.le) - S (ct u.p u.q u.r.le) u.m) = mxP u (x t) 0 := by
            have h1 := hmul u.r.le ⟨hle.1, by omega⟩
            have h2 := hCe u.r.le
            rw [Int.mul_comm u.r.le (x t)] at h1
            rw [wr_id (x := x t * u.r.le) (by omega) (by omega)]
            exact wr_id (by omega) (by omega)
          refine sem_loop tab_ok gamD4_ok mixed (by kernel_rfl) (O := lex) (fun j : Nat => ⟨[(1, .c (.sl 1 K (c1 x))), (2, .lp 0 0), (8, .c (.sl 1 K (c1 fun k => if k < K then pw (dP u x) (dgI (pOk u K) (dV u x K) (2 ^ K)) k else 0))), (9, intV c), (10, intV 0), (14, intV (dgF (fun _ => true) (fun k => dV u x K (A.getD k 0)) k).1), (15, boolV (dgF (fun _ => true) (fun k => dV u x K (A.getD k 0)) k).2), (17, .c (.sl 1 (K + 1) (c1 fun t => if t < K then bt (A.getD k 0) t else pCo u K (A.getD k 0)))), (18, intV (S (fun t => if bt (A.getD k 0) t = 1 then dG u x t else 0) t - pCo u K (A.getD k 0))), (20, intV (x t)), (21, intV (mxP u (x t) j)), (98, .c (.sl 1 A.length (patR' u K A))), (99, intV A.length), (100, intV k), (110, .c (.sl 1 K (c1 x))), (111, intV K), (112, intV t), (137, intV u.m), (138, intV j)], [.box [strV u.r.nm, intV u.r.le, intV u.r.mo, intV u.r.up, intV u.r.dn, intV u.r.mi, intV u.r.mf, intV u.r.st, strV u.s, .c (.sl 2 u.m (c2 u.p u.q)), boolV u.on, intV u.si, intV u.po]]⟩) (fun j => j ≤ u.m) (fun j => u.m - j) ⟨0, [?_], Nat.zero_le _, ?_⟩ fun j hj => ?_
          rotate_left 1
          · refine Sub.of ?_ ?_ ?_
            repeat' (first | (refine And.intro ?_ ?_) | exact trivial | exact fun _ _ _ => hsc _ _ | (exact congrArg intV (by first | with_reducible rfl | with_reducible assumption)) | exact (rfl : AV.idsLt _ _ = true) | exact (rfl : _ = AV.ren _ (.own _)) | exact (rfl : _ = AV.ren _ (.fn _ _)) | exact (rfl : _ = AV.ren _ (.gh _)) | (exact congrArg intV (by assumption)) | (refine congrArg intV ((wr_id (by omega) (by omega)).trans (by omega))) | exact rfl | (simp only [Int.toNat_natCast, Int.toNat_zero, Nat.sub_zero, Nat.zero_add]; first | exact rfl | done) | exact all0 | exact fun h => Bool.noConfusion h | exact fun _ _ _ _ => rfl | omega)
          have ej : IntKind.i64.wrap ((j : Int) + 1) = ((j + 1 : Nat) : Int) := (wr_id (by omega) (by omega)).trans (by omega)
          have hSj := fun h : j + 1 ≤ u.m => v3.S0 h
          conv => whnf
          repeat' (first
            | (refine NilG.mk fun bn hbn => ?_; conv => whnf)
            | (refine Both.mk ?_ ?_ <;> conv => whnf)
            | exact trivial
            | (refine Br.mk (fun hb => ?_) (fun hb => ?_) <;> (first | (exfalso; revert hb; decide) | ((try simp only [BL] at hb) <;> (try simp only [DL] at hb) <;> conv => whnf)))
            | (refine And.intro ?_ ?_; (focus (first | exact id | exact rfl | exact trivial | (intro hg; first | exact hg | exact rfl | (simp; done) | (simp at hg ⊢; assumption)) | omega | decide | exact is2_c _ _ _ | exact is1_c _ _ | exact isS_c _ _ | exact isB_c _ _ | exact Nat.le_refl _ | assumption | exact mulLe (by decide) (by omega) | exact mulLe2 (by decide) (by omega) (by omega) | (intros; simp only [BL] at *; omega) | (intros; (try simp only [BL] at *); (try simp only [DL] at *); omega) | (intros; simp only [BL] at *; rw [wr_id (by omega) (by omega)]; omega) | (intro h1 h2; exact Bool.and_eq_true_iff.2 ⟨h1, h2⟩) | (intros; simp_all; done))); conv => whnf)
            | (refine Or.inr (And.intro rfl ?_); first | (refine congrArg intV ?_) | (refine congrArg boolV ?_) | (refine tupII ?_ ?_) | (refine tupIII ?_ ?_ ?_) | (refine tupU ?_ ?_ ?_ ?_ ?_) | exact rfl))
          · have hjm : j < u.m := by omega
            have hSj := hSj hjm
            rw [ej]
            refine And.intro (bef_ok v3 (by omega)) ?_
            conv => whnf
            repeat' (first
              | (refine NilG.mk fun bn hbn => ?_; conv => whnf)
              | (refine Both.mk ?_ ?_ <;> conv => whnf)
              | exact trivial
              | (refine Br.mk (fun hb => ?_) (fun hb => ?_) <;> (first | (exfalso; revert hb; decide) | ((try simp only [BL] at hb) <;> (try simp only [DL] at hb) <;> conv => whnf)))
              | (refine And.intro ?_ ?_; (focus (first | exact id | exact rfl | exact trivial | (intro hg; first | exact hg | exact rfl | (simp; done) | (simp at hg ⊢; assumption)) | omega | decide | exact is2_c _ _ _ | exact is1_c _ _ | exact isS_c _ _ | exact isB_c _ _ | exact Nat.le_refl _ | assumption | exact mulLe (by decide) (by omega) | exact mulLe2 (by decide) (by omega) (by omega) | (intros; simp only [BL] at *; omega) | (intros; (try simp only [BL] at *); (try simp only [DL] at *); omega) | (intros; simp only [BL] at *; rw [wr_id (by omega) (by omega)]; omega) | (intro h1 h2; exact Bool.and_eq_true_iff.2 ⟨h1, h2⟩) | exact ⟨is2_c _ _ _, v3, hSj.1, show S u.p (j + 1) ≤ 2000000 by omega⟩ | (intros; simp_all; done))); conv => whnf)
              | (refine Or.inr (And.intro rfl ?_); first | (refine congrArg intV ?_) | (refine congrArg boolV ?_) | (refine tupII ?_ ?_) | (refine tupIII ?_ ?_ ?_) | (refine tupU ?_ ?_ ?_ ?_ ?_) | exact rfl))
            · have hgt : S u.p (j + 1) > u.r.le := hb
              have e1 : max (mxP u (x t) j) (IntKind.i64.wrap (IntKind.i64.wrap (x t * S u.p (j + 1)) - S (ct u.p u.q (S u.p (j + 1))) u.m)) = mxP u (x t) (j + 1) := by
                have h1 := hmul (S u.p (j + 1)) ⟨hSj.1, hSj.2.1⟩
                have h2 := hCe (S u.p (j + 1))
                rw [Int.mul_comm (S u.p (j + 1)) (x t)] at h1
                rw [wr_id (x := x t * S u.p (j + 1)) (by omega) (by omega), wr_id (by omega) (by omega)]
                exact (if_pos hgt).symm
              refine ⟨j + 1, [?_], by omega, by omega, ?_⟩
              rotate_left 1
              refine Sub.of ?_ ?_ ?_
              repeat' (first | (refine And.intro ?_ ?_) | exact trivial | exact fun _ _ _ => hsc _ _ | (exact congrArg intV (by first | with_reducible rfl | with_reducible assumption)) | exact (rfl : AV.idsLt _ _ = true) | exact (rfl : _ = AV.ren _ (.own _)) | exact (rfl : _ = AV.ren _ (.fn _ _)) | exact (rfl : _ = AV.ren _ (.gh _)) | (exact congrArg intV (by assumption)) | (refine congrArg intV ((wr_id (by omega) (by omega)).trans (by omega))) | exact rfl | (simp only [Int.toNat_natCast, Int.toNat_zero, Nat.sub_zero, Nat.zero_add]; first | exact rfl | done) | exact all0 | exact fun h => Bool.noConfusion h | exact fun _ _ _ _ => rfl | omega)
            · have hgt : ¬ S u.p (j + 1) > u.r.le := hb
              have e1 : mxP u (x t) j = mxP u (x t) (j + 1) := (if_neg hgt).symm
              refine ⟨j + 1, [?_], by omega, by omega, ?_⟩
              rotate_left 1
              refine Sub.of ?_ ?_ ?_
              repeat' (first | (refine And.intro ?_ ?_) | exact trivial | exact fun _ _ _ => hsc _ _ | (exact congrArg intV (by first | with_reducible rfl | with_reducible assumption)) | exact (rfl : AV.idsLt _ _ = true) | exact (rfl : _ = AV.ren _ (.own _)) | exact (rfl : _ = AV.ren _ (.fn _ _)) | exact (rfl : _ = AV.ren _ (.gh _)) | (exact congrArg intV (by assumption)) | (refine congrArg intV ((wr_id (by omega) (by omega)).trans (by omega))) | exact rfl | (simp only [Int.toNat_natCast, Int.toNat_zero, Nat.sub_zero, Nat.zero_add]; first | exact rfl | done) | exact all0 | exact fun h => Bool.noConfusion h | exact fun _ _ _ _ => rfl | omega)
          · have hjm : j = u.m := by omega
            have hmx := mxP_all hu x t
            rw [hjm, hmx]
            have hG := dG_b hu x hxt
            have h4 := hSb (A.getD k 0) t (by omega)
            have h5 := hSb (A.getD k 0) (t + 1) (by omega)
            have e1 : S (fun t => if bt (A.getD k 0) t = 1 then dG u x t else 0) (t + 1) = S (fun t => if bt (A.getD k 0) t = 1 then dG u x t else 0) t + dG u x t := by
              show _ + (if bt (A.getD k 0) t = 1 then dG u x t else 0) = _
              rw [if_pos hbt]
            have e2 : IntKind.i64.wrap (S (fun t => if bt (A.getD k 0) t = 1 then dG u x t else 0) t - pCo u K (A.getD k 0) + dG u x t) = S (fun t => if bt (A.getD k 0) t = 1 then dG u x t else 0) (t + 1) - pCo u K (A.getD k 0) := by
              rw [wr_id (by omega) (by omega)]
              omega
            refine ⟨t + 1, [?_], by omega, by omega, ?_⟩
            rotate_left 1
            refine Sub.of ?_ ?_ ?_
            repeat' (first | (refine And.intro ?_ ?_) | exact trivial | exact fun _ _ _ => hsc _ _ | (exact congrArg intV (by first | with_reducible rfl | with_reducible assumption)) | exact (rfl : AV.idsLt _ _ = true) | exact (rfl : _ = AV.ren _ (.own _)) | exact (rfl : _ = AV.ren _ (.fn _ _)) | exact (rfl : _ = AV.ren _ (.gh _)) | (exact congrArg intV (by assumption)) | (refine congrArg intV ((wr_id (by omega) (by omega)).trans (by omega))) | exact rfl | (simp only [Int.toNat_natCast, Int.toNat_zero, Nat.sub_zero, Nat.zero_add]; first | exact rfl | done) | exact all0 | exact fun h => Bool.noConfusion h | exact fun _ _ _ _ => rfl | omega)
        · have htK : t < K := by omega
          have hbt : ¬ bt (A.getD k 0) t = 1 := by
            have h := hb
            rw [if_pos htK] at h
            exact h
          have e1 : S (fun t => if bt (A.getD k 0) t = 1 then dG u x t else 0) (t + 1) = S (fun t => if bt (A.getD k 0) t = 1 then dG u x t else 0) t := by
            show _ + (if bt (A.getD k 0) t = 1 then dG u x t else 0) = _
            rw [if_neg hbt, Int.add_zero]
          have e2 : S (fun t => if bt (A.getD k 0) t = 1 then dG u x t else 0) t - pCo u K (A.getD k 0) = S (fun t => if bt (A.getD k 0) t = 1 then dG u x t else 0) (t + 1) - pCo u K (A.getD k 0) := by rw [e1]
          refine ⟨t + 1, [?_], by omega, by omega, ?_⟩
          rotate_left 1
          refine Sub.of ?_ ?_ ?_
          repeat' (first | (refine And.intro ?_ ?_) | exact trivial | exact fun _ _ _ => hsc _ _ | (exact congrArg intV (by first | with_reducible rfl | with_reducible assumption)) | exact (rfl : AV.idsLt _ _ = true) | exact (rfl : _ = AV.ren _ (.own _)) | exact (rfl : _ = AV.ren _ (.fn _ _)) | exact (rfl : _ = AV.ren _ (.gh _)) | (exact congrArg intV (by assumption)) | (refine congrArg intV ((wr_id (by omega) (by omega)).trans (by omega))) | exact rfl | (simp only [Int.toNat_natCast, Int.toNat_zero, Nat.sub_zero, Nat.zero_add]; first | exact rfl | done) | exact all0 | exact fun h => Bool.noConfusion h | exact fun _ _ _ _ => rfl | omega)
        · have htK : t = K := by omega
          have hv : S (fun t => if bt (A.getD k 0) t = 1 then dG u x t else 0) t - pCo u K (A.getD k 0) = dV u x K (A.getD k 0) := by rw [htK]; rfl
          rw [hv] at hb
          have e1 : dgF (fun _ => true) (fun k => dV u x K (A.getD k 0)) (k + 1) = (dV u x K (A.getD k 0), true) := by rw [hstep, if_pos ⟨rfl, hb⟩]
          have e2 : S (fun t => if bt (A.getD k 0) t = 1 then dG u x t else 0) t - pCo u K (A.getD k 0) = (dgF (fun _ => true) (fun k => dV u x K (A.getD k 0)) (k + 1)).1 := by rw [e1, hv]
          have e3 : boolV true = boolV (dgF (fun _ => true) (fun k => dV u x K (A.getD k 0)) (k + 1)).2 := by rw [e1]
          refine ⟨k + 1, [?_], by omega, by omega, ?_⟩
          rotate_left 1
          refine Sub.of ?_ ?_ ?_
          repeat' (first | (exact e3) | (refine And.intro ?_ ?_) | exact trivial | exact fun _ _ _ => hsc _ _ | (exact congrArg intV (by first | with_reducible rfl | with_reducible assumption)) | exact (rfl : AV.idsLt _ _ = true) | exact (rfl : _ = AV.ren _ (.own _)) | exact (rfl : _ = AV.ren _ (.fn _ _)) | exact (rfl : _ = AV.ren _ (.gh _)) | (exact congrArg intV (by assumption)) | (refine congrArg intV ((wr_id (by omega) (by omega)).trans (by omega))) | exact rfl | (simp only [Int.toNat_natCast, Int.toNat_zero, Nat.sub_zero, Nat.zero_add]; first | exact rfl | done) | exact all0 | exact fun h => Bool.noConfusion h | exact fun _ _ _ _ => rfl | omega)
        · have htK : t = K := by omega
          have hv : S (fun t => if bt (A.getD k 0) t = 1 then dG u x t else 0) t - pCo u K (A.getD k 0) = dV u x K (A.getD k 0) := by rw [htK]; rfl
          rw [hv] at hb
          have e1 : dgF (fun _ => true) (fun k => dV u x K (A.getD k 0)) k = dgF (fun _ => true) (fun k => dV u x K (A.getD k 0)) (k + 1) := by
            rw [hstep, if_neg]
            rintro ⟨_, h⟩
            rcases h with h | h
            · rw [h] at hb; cases hb.1
            · exact hb.2 h
          have e2 : (dgF (fun _ => true) (fun k => dV u x K (A.getD k 0)) k).1 = (dgF (fun _ => true) (fun k => dV u x K (A.getD k 0)) (k + 1)).1 := by rw [← e1]
          have e3 : boolV (dgF (fun _ => true) (fun k => dV u x K (A.getD k 0)) k).2 = boolV (dgF (fun _ => true) (fun k => dV u x K (A.getD k 0)) (k + 1)).2 := by rw [← e1]
          refine ⟨k + 1, [?_], by omega, by omega, ?_⟩
          rotate_left 1
          refine Sub.of ?_ ?_ ?_
          repeat' (first | (exact e3) | (refine And.intro ?_ ?_) | exact trivial | exact fun _ _ _ => hsc _ _ | (exact congrArg intV (by first | with_reducible rfl | with_reducible assumption)) | exact (rfl : AV.idsLt _ _ = true) | exact (rfl : _ = AV.ren _ (.own _)) | exact (rfl : _ = AV.ren _ (.fn _ _)) | exact (rfl : _ = AV.ren _ (.gh _)) | (exact congrArg intV (by assumption)) | (refine congrArg intV ((wr_id (by omega) (by omega)).trans (by omega))) | exact rfl | (simp only [Int.toNat_natCast, Int.toNat_zero, Nat.sub_zero, Nat.zero_add]; first | exact rfl | done) | exact all0 | exact fun h => Bool.noConfusion h | exact fun _ _ _ _ => rfl | omega)
      · have hkA : k = A.length := by omega
        rw [hkA, hAf] at hb
        exfalso
        rcases hb with (hb | hb) | hb
        · exact hb trivial
        · exact hb k3
        · exact hb trivial
      have hkA : k = A.length := by omega
      rw [hkA, hAf]
      clear hb
      obtain ⟨r1, r2⟩ := dRun hu x K (dgI (pOk u K) (dV u x K) (2 ^ K)) (by omega)
      have hrun0 := r1.2 a2
      refine CallG.mk (Fn.mono ((uRun u.r (cuS u) K (pw (dP u x) (dgI (pOk u K) (dV u x K) (2 ^ K))) hz.1).le (Le.cons (Le1.refl _) (Le.cons (Le1.refl _) (Le.cons (Le1.sl fun k hk j hj => ?_) Le.nil)))) ?_)
      · obtain rfl : j = 0 := by omega
        show iL (if k < K then pw (dP u x) (dgI (pOk u K) (dV u x K) (2 ^ K)) k else 0) = iL (pw (dP u x) (dgI (pOk u K) (dV u x K) (2 ^ K)) k)
        rw [if_pos hk]
      rintro obs r ⟨rfl, hr⟩
      rcases hr with ⟨h1, rfl⟩ | ⟨h1, rfl⟩
      · exact absurd hrun0 h1
      rw [r2]
      conv => whnf
      repeat' (first
        | (refine NilG.mk fun bn hbn => ?_; conv => whnf)
        | (refine Both.mk ?_ ?_ <;> conv => whnf)
        | exact trivial
        | (refine Br.mk (fun hb => ?_) (fun hb => ?_) <;> (first | (exfalso; revert hb; decide) | ((try simp only [BL] at hb) <;> (try simp only [DL] at hb) <;> conv => whnf)))
        | (refine And.intro ?_ ?_; (focus (first | exact id | exact rfl | exact trivial | (intro hg; first | exact hg | exact rfl | (simp; done) | (simp at hg ⊢; assumption)) | omega | decide | exact is2_c _ _ _ | exact is1_c _ _ | exact isS_c _ _ | exact isB_c _ _ | exact Nat.le_refl _ | assumption | exact mulLe (by decide) (by omega) | exact mulLe2 (by decide) (by omega) (by omega) | (intros; simp only [BL] at *; omega) | (intros; (try simp only [BL] at *); (try simp only [DL] at *); omega) | (intros; simp only [BL] at *; rw [wr_id (by omega) (by omega)]; omega) | (intro h1 h2; exact Bool.and_eq_true_iff.2 ⟨h1, h2⟩) | (intros; simp_all; done))); conv => whnf)
        | (refine Or.inr (And.intro rfl ?_); first | (refine congrArg intV ?_) | (refine congrArg boolV ?_) | (refine tupII ?_ ?_) | (refine tupIII ?_ ?_ ?_) | (refine tupU ?_ ?_ ?_ ?_ ?_) | exact rfl))
      have hco := pCo_b v0 a2
      have hle : 0 ≤ u.r.le ∧ u.r.le ≤ u.r.mo ∧ u.r.mo ≤ 100000 := by
        unfold okR at v1
        omega
      have hCe := fun y => C_le v3 y (Nat.le_refl _)
      have hdP := dP_b hu x
      generalize hI : dgI (pOk u K) (dV u x K) (2 ^ K) = I at *
      generalize hB : (dgF (pOk u K) (dV u x K) (2 ^ K)).1 = B at *
      have e18 : IntKind.i64.wrap (0 - pCo u K I) = S (fun t => if bt I t = 1 then dG u x t else 0) 0 - pCo u K I := by
        exact wr_id (by omega) (by omega)
      refine sem_loop tab_ok gamD4_ok mixed (by kernel_rfl) (O := lex) (fun t : Nat => ⟨[(1, .c (.sl 1 K (c1 x))), (2, .lp 0 0), (14, intV B), (26, intV 0), (27, intV (S (fun t => if bt I t = 1 then dG u x t else 0) t - pCo u K I)), (201, .c (.sl 1 K (c1 fun k => if k < K then pw (dP u x) I k else 0))), (202, intV K), (203, intV t)], [.box [strV u.r.nm, intV u.r.le, intV u.r.mo, intV u.r.up, intV u.r.dn, intV u.r.mi, intV u.r.mf, intV u.r.st, strV u.s, .c (.sl 2 u.m (c2 u.p u.q)), boolV u.on, intV u.si, intV u.po]]⟩) (fun t => t ≤ K) (fun t => K - t) ⟨0, [?_], Nat.zero_le _, ?_⟩ fun t ht => ?_
      rotate_left 1
      · refine Sub.of ?_ ?_ ?_
        repeat' (first | (refine And.intro ?_ ?_) | exact trivial | exact fun _ _ _ => hsc _ _ | (exact congrArg intV (by first | with_reducible rfl | with_reducible assumption)) | exact (rfl : AV.idsLt _ _ = true) | exact (rfl : _ = AV.ren _ (.own _)) | exact (rfl : _ = AV.ren _ (.fn _ _)) | exact (rfl : _ = AV.ren _ (.gh _)) | (exact congrArg intV (by assumption)) | (refine congrArg intV ((wr_id (by omega) (by omega)).trans (by omega))) | exact rfl | (simp only [Int.toNat_natCast, Int.toNat_zero, Nat.sub_zero, Nat.zero_add]; first | exact rfl | done) | exact all0 | exact fun h => Bool.noConfusion h | exact fun _ _ _ _ => rfl | omega)
      have hpb : (if t < K then pw (dP u x) I t else 0) ≤ 2000000 := by
        have := hdP t
        unfold pw
        split
        · split <;> omega
        · decide
      have hpv : t < K → (if t < K then pw (dP u x) I t else 0) = pw (dP u x) I t := fun h => if_pos h
      conv => whnf
      repeat' (first
        | (refine NilG.mk fun bn hbn => ?_; conv => whnf)
        | (refine Both.mk ?_ ?_ <;> conv => whnf)
        | exact trivial
        | (refine Br.mk (fun hb => ?_) (fun hb => ?_) <;> (first | (exfalso; revert hb; decide) | ((try simp only [BL] at hb) <;> (try simp only [DL] at hb) <;> conv => whnf)))
        | (refine And.intro ?_ ?_; (focus (first | exact id | exact rfl | exact trivial | (intro hg; first | exact hg | exact rfl | (simp; done) | (simp at hg ⊢; assumption)) | omega | decide | exact is2_c _ _ _ | exact is1_c _ _ | exact isS_c _ _ | exact isB_c _ _ | exact Nat.le_refl _ | assumption | exact mulLe (by decide) (by omega) | exact mulLe2 (by decide) (by omega) (by omega) | (intros; simp only [BL] at *; omega) | (intros; (try simp only [BL] at *); (try simp only [DL] at *); omega) | (intros; simp only [BL] at *; rw [wr_id (by omega) (by omega)]; omega) | (intro h1 h2; exact Bool.and_eq_true_iff.2 ⟨h1, h2⟩) | exact ⟨is2_c _ _ _, v3, by assumption, hpb⟩ | (intros; simp_all; done))); conv => whnf)
        | (refine Or.inr (And.intro rfl ?_); first | (refine congrArg intV ?_) | (refine congrArg boolV ?_) | (refine tupII ?_ ?_) | (refine tupIII ?_ ?_ ?_) | (refine tupU ?_ ?_ ?_ ?_ ?_) | exact rfl))
      · have htK : t < K := by omega
        have hpv := hpv htK
        have hbt : bt I t = 1 := by
          by_cases h : bt I t = 1
          · exact h
          · exfalso
            have hb : (if t < K then pw (dP u x) I t else 0) ≥ 0 := hb
            rw [hpv] at hb
            unfold pw at hb
            rw [if_neg h] at hb
            exact absurd hb (by decide)
        have hpd : pw (dP u x) I t = dP u x t := if_pos hbt
        have hxt := hx t htK
        have hdt := hdP t
        have h1 := mulB (a := dP u x t) (b := x t) (A := 100000) (B := 2000000) (by omega) (by omega) (by omega) (by omega) (by omega)
        rw [Int.mul_comm (dP u x t) (x t)] at h1
        have h2 := hCe (dP u x t)
        have hG := dG_b hu x hxt
        have h4 := hSb I t (by omega)
        have e1 : S (fun t => if bt I t = 1 then dG u x t else 0) (t + 1) = S (fun t => if bt I t = 1 then dG u x t else 0) t + dG u x t := by
          show _ + (if bt I t = 1 then dG u x t else 0) = _
          rw [if_pos hbt]
        have e0 : x t * dP u x t - S (ct u.p u.q (dP u x t)) u.m = dG u x t := rfl
        have e2 : IntKind.i64.wrap (S (fun t => if bt I t = 1 then dG u x t else 0) t - pCo u K I + IntKind.i64.wrap (IntKind.i64.wrap (x t * if t < K then pw (dP u x) I t else 0) - S (ct u.p u.q (if t < K then pw (dP u x) I t else 0)) u.m)) = S (fun t => if bt I t = 1 then dG u x t else 0) (t + 1) - pCo u K I := by
          rw [hpv, hpd, wr_id (x := x t * dP u x t) (by omega) (by omega), e0, wr_id (x := dG u x t) (by omega) (by omega), wr_id (by omega) (by omega), e1]
          omega
        refine ⟨t + 1, [?_], by omega, by omega, ?_⟩
        rotate_left 1
        refine Sub.of ?_ ?_ ?_
        repeat' (first | (refine And.intro ?_ ?_) | exact trivial | exact fun _ _ _ => hsc _ _ | (exact congrArg intV (by first | with_reducible rfl | with_reducible assumption)) | exact (rfl : AV.idsLt _ _ = true) | exact (rfl : _ = AV.ren _ (.own _)) | exact (rfl : _ = AV.ren _ (.fn _ _)) | exact (rfl : _ = AV.ren _ (.gh _)) | (exact congrArg intV (by assumption)) | (refine congrArg intV ((wr_id (by omega) (by omega)).trans (by omega))) | exact rfl | (simp only [Int.toNat_natCast, Int.toNat_zero, Nat.sub_zero, Nat.zero_add]; first | exact rfl | done) | exact all0 | exact fun h => Bool.noConfusion h | exact fun _ _ _ _ => rfl | omega)
      · have htK : t < K := by omega
        have hpv := hpv htK
        have hbt : ¬ bt I t = 1 := fun h => by
          have hb : ¬ (if t < K then pw (dP u x) I t else 0) ≥ 0 := hb
          rw [hpv] at hb
          unfold pw at hb
          rw [if_pos h] at hb
          have := hdP t
          omega
        have e1 : S (fun t => if bt I t = 1 then dG u x t else 0) t = S (fun t => if bt I t = 1 then dG u x t else 0) (t + 1) := by
          show _ = _ + (if bt I t = 1 then dG u x t else 0)
          rw [if_neg hbt, Int.add_zero]
        have e2 : S (fun t => if bt I t = 1 then dG u x t else 0) t - pCo u K I = S (fun t => if bt I t = 1 then dG u x t else 0) (t + 1) - pCo u K I := by rw [← e1]
        refine ⟨t + 1, [?_], by omega, by omega, ?_⟩
        rotate_left 1
        refine Sub.of ?_ ?_ ?_
        repeat' (first | (refine And.intro ?_ ?_) | exact trivial | exact fun _ _ _ => hsc _ _ | (exact congrArg intV (by first | with_reducible rfl | with_reducible assumption)) | exact (rfl : AV.idsLt _ _ = true) | exact (rfl : _ = AV.ren _ (.own _)) | exact (rfl : _ = AV.ren _ (.fn _ _)) | exact (rfl : _ = AV.ren _ (.gh _)) | (exact congrArg intV (by assumption)) | (refine congrArg intV ((wr_id (by omega) (by omega)).trans (by omega))) | exact rfl | (simp only [Int.toNat_natCast, Int.toNat_zero, Nat.sub_zero, Nat.zero_add]; first | exact rfl | done) | exact all0 | exact fun h => Bool.noConfusion h | exact fun _ _ _ _ => rfl | omega)
      · have htK : t = K := by omega
        have e1 : S (fun t => if bt I t = 1 then dG u x t else 0) t - pCo u K I = B := by
          rw [htK]
          exact a3.symm
        rw [e1]
        simp

def tyDr : Ty := .st (.cons .s (.cons (.i .i64) (.cons (.i .i64) (.cons (.i .i64) (.cons (.i .i64) (.cons (.i .i64) (.cons (.i .i64) (.cons (.i .i64) .nil))))))))
def tyDs : Ty := .st (.cons .b (.cons (.i .i64) (.cons (.i .i64) .nil)))
def tyDu : Ty := .st (.cons tyDr (.cons tyOff (.cons tyDs .nil)))
theorem dualSingle_own : ownKnob Try.prog.godebug = none := by kernel_rfl
theorem dualSingle_laid : laidOutB Try.prog = true := by kernel_rfl

set_option maxRecDepth 100000 in
theorem dualSingle_lifted (os : Os) (started : os.Started) (H : Type) (enc : TypeId × Value → H) :
    ReturnsInHanded {} Try.checked os 7 .any (Rows.dualSingleSpec.pre6 enc Try.prog Try.f7 Rows.dualSingleRow.domain false) (Rows.dualSingleSpec.post enc Try.prog Try.f7 false true false false) := by
  refine returnsInHanded_of_change (C := Try.checked) dualSingle_own started (by kernel_rfl) Try.func7
    (ChangeSpec.witness6 (enc := enc) (C := Try.checked) false ⟨#[], #[.agg #[.string ByteArray.empty, .int .i64 0, .int .i64 0, .int .i64 0, .int .i64 0, .int .i64 0, .int .i64 0, .int .i64 0, .string ByteArray.empty, .slice none 0 0, .bool false, .int .i64 0, .int .i64 0], .slice none 0 0], []⟩ 8 (by kernel_rfl) (by kernel_rfl) (by kernel_rfl) (by kernel_rfl)) ?_
  intro W base args ds gs before hval0 hW hcnd _
  have hval : ∀ (j : Nat) t v, Try.f7.params[j]? = some t → args[j]? = some v → Value.okWide Try.prog W .any base t v := hval0
  have hW' : DataW.Whole enc Try.prog Try.f7.params.toList Rows.dualSingleSpec.vars false W args.toList ds gs before := hW
  exact law_post (P := Try.prog) [tyDu, .sl (.i .i64)] (by kernel_rfl) dualSingle_laid (by kernel_rfl) rfl (tb := 4) rfl (by kernel_rfl) (fun ds h => by
    match ds, h with
    | [d1, d2], _ => rfl) (fun x hx => dsLaw ⟨⟨x.1.1.1, x.1.1.2.1, x.1.1.2.2.1, x.1.1.2.2.2.1, x.1.1.2.2.2.2.1, x.1.1.2.2.2.2.2.1, x.1.1.2.2.2.2.2.2.1, x.1.1.2.2.2.2.2.2.2.1⟩, x.1.2.1.1, x.1.2.1.2.1.1, (fun i => (x.1.2.1.2.1.2 i).1), (fun i => (x.1.2.1.2.1.2 i).2.1), x.1.2.2.1.1, x.1.2.2.1.2.1, x.1.2.2.1.2.2.1⟩ x.2.1.2 x.2.1.1 ⟨hx.1.1.1, hx.1.2.1.1, hx.1.2.1.2.1.1⟩ hx.2.1.1) W args ds gs before hval hW'

theorem dualSingle_holds : Rows.DualSingleSaid :=
  OpenClaim.holds_of_wide 7 Try.f7 rfl rfl rfl rfl rfl rfl rfl ⟨rfl, rfl, rfl, rfl, rfl⟩ rfl rfl rfl rfl rfl (by kernel_rfl) Try.func7 (by kernel_rfl)
    (of_decide_eq_true (by kernel_rfl)) (by unfold Func.isWrapper; rw [if_neg (by decide +kernel)]; exact ⟨rfl, rfl⟩)
    (fun os started H enc _ => dualSingle_lifted os started H enc)
end Go.Proofs.Ytdakikgebfphmaa
