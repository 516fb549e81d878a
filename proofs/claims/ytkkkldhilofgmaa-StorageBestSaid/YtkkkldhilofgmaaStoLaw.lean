/-
  StorageBest holds: Value and Best give the least costs and the charges of the reference, level by level, whatever the input.
-/
import Derived.Test.YtkkkldhilofgmaaStoY
namespace Go.Proofs.Ytkkkldhilofgmaa
open Go.RowKit Go.ChangeShapes Go.WideShapes

set_option maxHeartbeats 8000000 in
set_option maxRecDepth 100000 in
theorem sbLaw (s : Sto) (m : Nat) (pr : Nat → Int) (hm : m ≤ maxLen) : Fn1 Try.prog 5 [sV s, .c (.sl 1 m (c1 pr))] (boolV true) := by
  refine fn_of_wpx (O := lex) tab_ok gamSY_ok mixed Try.func5 (by kernel_rfl) rfl rfl rfl (by simp [Try.ntmps5]) (by kernel_rfl) ?_
  conv => whnf
  repeat' (first
    | (refine NilG.mk fun bn hbn hbx => ?_; conv => whnf)
    | (refine Both.mk ?_ ?_ <;> conv => whnf)
    | exact trivial
    | (refine Br.mk (fun hb => ?_) (fun hb => ?_) <;> (first | (exfalso; revert hb; decide) | ((try simp only [BL] at hb) <;> (try simp only [DL] at hb) <;> conv => whnf)))
    | (refine And.intro ?_ ?_; (focus (first | exact id | exact rfl | exact trivial | (intro hg; first | exact hg | exact rfl | (simp; done) | (simp at hg ⊢; assumption)) | omega | decide | exact is2_c _ _ _ | exact is1_c _ _ | exact isS_c _ _ | exact isB_c _ _ | exact Nat.le_refl _ | assumption | exact mulLe (by decide) (by omega) | exact mulLe2 (by decide) (by omega) (by omega) | (intros; simp only [BL] at *; omega) | (intros; (try simp only [BL] at *); (try simp only [DL] at *); omega) | (intros; simp only [BL] at *; rw [wr_id (by omega) (by omega)]; omega) | (intro h1 h2; exact Bool.and_eq_true_iff.2 ⟨h1, h2⟩) | (intros; simp_all; done))); conv => whnf)
    | (refine Or.inr (And.intro rfl ?_); first | (refine congrArg intV ?_) | (refine congrArg boolV ?_) | (refine tupII ?_ ?_) | (refine tupIII ?_ ?_ ?_) | (refine tupU ?_ ?_ ?_ ?_ ?_) | exact rfl))
  refine CallG.mk (Fn.mono (exBest.le (Le.cons (Le1.refl _) (Le.cons (Le1.sl fun k hk j hj => ?_) Le.nil))) ?_)
  · match k, j, hk, hj with
    | 0, 0, _, _ => rfl
    | 1, 0, _, _ => rfl
  rintro obs r ⟨rfl, rfl⟩
  conv => whnf
  repeat' (first
    | (refine NilG.mk fun bn hbn hbx => ?_; conv => whnf)
    | (refine Both.mk ?_ ?_ <;> conv => whnf)
    | exact trivial
    | (refine Br.mk (fun hb => ?_) (fun hb => ?_) <;> (first | (exfalso; revert hb; decide) | ((try simp only [BL] at hb) <;> (try simp only [DL] at hb) <;> conv => whnf)))
    | (refine And.intro ?_ ?_; (focus (first | exact id | exact rfl | exact trivial | (intro hg; first | exact hg | exact rfl | (simp; done) | (simp at hg ⊢; assumption)) | omega | decide | exact is2_c _ _ _ | exact is1_c _ _ | exact isS_c _ _ | exact isB_c _ _ | exact Nat.le_refl _ | assumption | exact mulLe (by decide) (by omega) | exact mulLe2 (by decide) (by omega) (by omega) | (intros; simp only [BL] at *; omega) | (intros; (try simp only [BL] at *); (try simp only [DL] at *); omega) | (intros; simp only [BL] at *; rw [wr_id (by omega) (by omega)]; omega) | (intro h1 h2; exact Bool.and_eq_true_iff.2 ⟨h1, h2⟩) | (intros; simp_all; done))); conv => whnf)
    | (refine Or.inr (And.intro rfl ?_); first | (refine congrArg intV ?_) | (refine congrArg boolV ?_) | (refine tupII ?_ ?_) | (refine tupIII ?_ ?_ ?_) | (refine tupU ?_ ?_ ?_ ?_ ?_) | exact rfl))
  refine And.intro (fun _ => ?_) (fun hg => absurd hg (by decide))
  conv => whnf
  repeat' (first
    | (refine NilG.mk fun bn hbn hbx => ?_; conv => whnf)
    | (refine Both.mk ?_ ?_ <;> conv => whnf)
    | exact trivial
    | (refine Br.mk (fun hb => ?_) (fun hb => ?_) <;> (first | (exfalso; revert hb; decide) | ((try simp only [BL] at hb) <;> (try simp only [DL] at hb) <;> conv => whnf)))
    | (refine And.intro ?_ ?_; (focus (first | exact id | exact rfl | exact trivial | (intro hg; first | exact hg | exact rfl | (simp; done) | (simp at hg ⊢; assumption)) | omega | decide | exact is2_c _ _ _ | exact is1_c _ _ | exact isS_c _ _ | exact isB_c _ _ | exact Nat.le_refl _ | assumption | exact mulLe (by decide) (by omega) | exact mulLe2 (by decide) (by omega) (by omega) | (intros; simp only [BL] at *; omega) | (intros; (try simp only [BL] at *); (try simp only [DL] at *); omega) | (intros; simp only [BL] at *; rw [wr_id (by omega) (by omega)]; omega) | (intro h1 h2; exact Bool.and_eq_true_iff.2 ⟨h1, h2⟩) | exact fun _ => ⟨is1_c _ _, fun k hk j hj => (match k, j, hk, hj with | 0, 0, _, _ => rfl | 1, 0, _, _ => rfl), by decide, rfl, fun i hi => (match i, hi with | 0, _ => rfl | 1, _ => rfl)⟩ | (intros; simp_all; done))); conv => whnf)
    | (refine Or.inr (And.intro rfl ?_); first | (refine congrArg intV ?_) | (refine congrArg boolV ?_) | (refine tupII ?_ ?_) | (refine tupIII ?_ ?_ ?_) | (refine tupU ?_ ?_ ?_ ?_ ?_) | exact rfl))
  refine CallG.mk (Fn.mono (stBest2 s m pr hm) ?_)
  rintro obs r ⟨rfl, kb, fl, cb, eb, rfl, hbst⟩
  conv => whnf
  repeat' (first
    | (refine NilG.mk fun bn hbn hbx => ?_; conv => whnf)
    | (refine Both.mk ?_ ?_ <;> conv => whnf)
    | exact trivial
    | (refine Br.mk (fun hb => ?_) (fun hb => ?_) <;> (first | (exfalso; revert hb; decide) | ((try simp only [BL] at hb) <;> (try simp only [DL] at hb) <;> conv => whnf)))
    | (refine And.intro ?_ ?_; (focus (first | exact id | exact rfl | exact trivial | (intro hg; first | exact hg | exact rfl | (simp; done) | (simp at hg ⊢; assumption)) | omega | decide | exact is2_c _ _ _ | exact is1_c _ _ | exact isS_c _ _ | exact isB_c _ _ | exact Nat.le_refl _ | assumption | exact mulLe (by decide) (by omega) | exact mulLe2 (by decide) (by omega) (by omega) | (intros; simp only [BL] at *; omega) | (intros; (try simp only [BL] at *); (try simp only [DL] at *); omega) | (intros; simp only [BL] at *; rw [wr_id (by omega) (by omega)]; omega) | (intro h1 h2; exact Bool.and_eq_true_iff.2 ⟨h1, h2⟩) | (intros; simp_all; done))); conv => whnf)
    | (refine Or.inr (And.intro rfl ?_); first | (refine congrArg intV ?_) | (refine congrArg boolV ?_) | (refine tupII ?_ ?_) | (refine tupIII ?_ ?_ ?_) | (refine tupU ?_ ?_ ?_ ?_ ?_) | exact rfl))
  refine CallG.mk (Fn.mono (stValue2 s m pr hm) ?_)
  rintro obs r ⟨rfl, fv, ev, rfl, hval⟩
  conv => whnf
  repeat' (first
    | (refine NilG.mk fun bn hbn hbx => ?_; conv => whnf)
    | (refine Both.mk ?_ ?_ <;> conv => whnf)
    | exact trivial
    | (refine Br.mk (fun hb => ?_) (fun hb => ?_) <;> (first | (exfalso; revert hb; decide) | ((try simp only [BL] at hb) <;> (try simp only [DL] at hb) <;> conv => whnf)))
    | (refine And.intro ?_ ?_; (focus (first | exact id | exact rfl | exact trivial | (intro hg; first | exact hg | exact rfl | (simp; done) | (simp at hg ⊢; assumption)) | omega | decide | exact is2_c _ _ _ | exact is1_c _ _ | exact isS_c _ _ | exact isB_c _ _ | exact Nat.le_refl _ | assumption | exact mulLe (by decide) (by omega) | exact mulLe2 (by decide) (by omega) (by omega) | (intros; simp only [BL] at *; omega) | (intros; (try simp only [BL] at *); (try simp only [DL] at *); omega) | (intros; simp only [BL] at *; rw [wr_id (by omega) (by omega)]; omega) | (intro h1 h2; exact Bool.and_eq_true_iff.2 ⟨h1, h2⟩) | exact ⟨is1_c _ _, hm⟩ | (intros; simp_all; done))); conv => whnf)
    | (refine Or.inr (And.intro rfl ?_); first | (refine congrArg intV ?_) | (refine congrArg boolV ?_) | (refine tupII ?_ ?_) | (refine tupIII ?_ ?_ ?_) | (refine tupU ?_ ?_ ?_ ?_ ?_) | exact rfl))
  · have hb : ¬ stoE s m pr = 0 := hb
    rcases hbst with ⟨-, rfl, rfl, rfl⟩ | ⟨h, -⟩
    · rcases hval with ⟨-, hn, rfl⟩ | ⟨h, -⟩
      · rw [hn]
        show (stoE s m pr == stoE s m pr && stoE s m pr == stoE s m pr && (0 : Int) == 0 && (0 : Int) == 0 && (0 : Int) == 0) = true
        simp
      · exact absurd h hb
    · exact absurd h hb
  · rfl
  rename_i h0
  have h0 : stoE s m pr = 0 := h0
  rcases hbst with ⟨h, -⟩ | ⟨-, F, hc, hbst⟩
  · exact absurd h0 h
  rcases hval with ⟨h, -⟩ | ⟨-, rfl, F', hc', rfl⟩
  · exact absurd h0 h
  obtain ⟨h1, h2, h3⟩ := stoE_zero h0
  have hs0 := h1
  unfold stOk at hs0
  have hcap : (capN s : Int) = s.cap + 1 := by unfold capN; omega
  refine CallG.mk (Fn.mono (stLevels s m pr F h1 h2 h3 hc) ?_)
  rintro obs r ⟨rfl, G, hG, rfl⟩
  conv => whnf
  repeat' (first
    | (refine NilG.mk fun bn hbn hbx => ?_; conv => whnf)
    | (refine Both.mk ?_ ?_ <;> conv => whnf)
    | exact trivial
    | (refine Br.mk (fun hb => ?_) (fun hb => ?_) <;> (first | (exfalso; revert hb; decide) | ((try simp only [BL] at hb) <;> (try simp only [DL] at hb) <;> conv => whnf)))
    | (refine And.intro ?_ ?_; (focus (first | exact id | exact rfl | exact trivial | (intro hg; first | exact hg | exact rfl | (simp; done) | (simp at hg ⊢; assumption)) | omega | decide | exact is2_c _ _ _ | exact is1_c _ _ | exact isS_c _ _ | exact isB_c _ _ | exact Nat.le_refl _ | assumption | exact mulLe (by decide) (by omega) | exact mulLe2 (by decide) (by omega) (by omega) | (intros; simp only [BL] at *; omega) | (intros; (try simp only [BL] at *); (try simp only [DL] at *); omega) | (intros; simp only [BL] at *; rw [wr_id (by omega) (by omega)]; omega) | (intro h1 h2; exact Bool.and_eq_true_iff.2 ⟨h1, h2⟩) | (intros; simp_all; done))); conv => whnf)
    | (refine Or.inr (And.intro rfl ?_); first | (refine congrArg intV ?_) | (refine congrArg boolV ?_) | (refine tupII ?_ ?_) | (refine tupIII ?_ ?_ ?_) | (refine tupU ?_ ?_ ?_ ?_ ?_) | exact rfl))
  obtain ⟨he1, he2, he3⟩ := ch_eq hc hc' m (Nat.le_refl m)
  have hBm := hc.2.2 m (Nat.le_refl m)
  have hBm' := hc'.2.2 m (Nat.le_refl m)
  have hlo := hBm.2.1
  have hhi := hBm.2.2.1
  have hle := Cxt.le hBm.1
  have h2' : m ≤ 24 := h2
  have hGm : ∀ k, k < capN s → G m k = levV (F m) k := fun k hk => hG m (Nat.le_refl m) k hk
  refine LoopG.nil 17 3 1 rfl ?_
  refine sem_loop tab_ok gamSY_ok mixed (by kernel_rfl) (O := lex) (fun x : Nat × Int × Nat => ⟨[(1, .c (.sl 1 m (c1 pr))), (2, .lp 0 0), (8, .c (.sl 1 kb (c1 fl))), (9, intV cb), (10, intV eb), (11, .lp 1 0), (12, intV 0), (14, .c (.sl 1 (m + 1) (lvF s G))), (15, .c (.sl 1 (capN s) (c1 (G m)))), (16, intV x.2.1), (17, .own 2), (105, .c (.sl 1 (capN s) (c1 (G m)))), (106, intV (capN s)), (107, intV x.1)], [.box [intV s.C, intV s.D, intV s.cap, intV s.beg, intV s.en], .box [intV (F' m).lo, intV (F' m).v, .c (.sl 2 (F' m).n (c2 (F' m).p (F' m).q))], .row 3 1 x.2.2 false (c1 fun k => (F m).V ((F m).lo + k))]⟩) (fun x => x.1 ≤ capN s ∧ x.2.1 = (if (x.1 : Int) ≤ (F m).lo then -1 else (F m).lo) ∧ (x.2.2 : Int) = max (min (x.1 : Int) ((F m).hi + 1) - (F m).lo) 0) (fun x => capN s - x.1) ⟨(0, -1, 0), [?_, ?_, ?_], ⟨Nat.zero_le _, (if_pos hlo).symm, by show ((0 : Nat) : Int) = max (min ((0 : Nat) : Int) ((F m).hi + 1) - (F m).lo) 0; omega⟩, ?_⟩ fun y hy => ?_
  rotate_left 3
  · refine Sub.of ?_ ?_ ?_
    repeat' (first | (refine And.intro ?_ ?_) | exact trivial | exact fun _ _ _ => hsc _ _ | (exact congrArg intV (by first | with_reducible rfl | with_reducible assumption)) | exact (rfl : AV.idsLt _ _ = true) | exact (rfl : _ = AV.ren _ (.own _)) | exact (rfl : _ = AV.ren _ (.fn _ _)) | exact (rfl : _ = AV.ren _ (.gh _)) | (exact congrArg intV (by assumption)) | (refine congrArg intV ((wr_id (by omega) (by omega)).trans (by omega))) | exact rfl | (simp only [Int.toNat_natCast, Int.toNat_zero, Nat.sub_zero, Nat.zero_add]; first | exact rfl | done) | exact all0 | exact fun h => Bool.noConfusion h | exact fun _ _ _ _ => rfl | omega)
  obtain ⟨i, fi, n⟩ := y
  obtain ⟨hi, hfi, hn⟩ := hy
  dsimp only at hi hfi hn ⊢
  have hin_i : G m i < 1152921504606846976 → i < capN s → (F m).in i ∧ G m i = (F m).V i := fun h hk => by
    have h2 := h
    rw [hGm i hk] at h2
    have h3 := (levV_lt hBm h2' i).1 h2
    exact ⟨h3, (hGm i hk).trans (if_pos h3)⟩
  conv => whnf
  repeat' (first
    | (refine NilG.mk fun bn hbn hbx => ?_; conv => whnf)
    | (refine Both.mk ?_ ?_ <;> conv => whnf)
    | exact trivial
    | (refine Br.mk (fun hb => ?_) (fun hb => ?_) <;> (first | (exfalso; revert hb; decide) | ((try simp only [BL] at hb) <;> (try simp only [DL] at hb) <;> (first | (exfalso; omega) | (conv => whnf)))))
    | (refine And.intro ?_ ?_; (focus (first | exact id | exact rfl | exact trivial | (intro hg; first | exact hg | exact rfl | (simp; done) | (simp at hg ⊢; assumption)) | omega | decide | exact is2_c _ _ _ | exact is1_c _ _ | exact isS_c _ _ | exact isB_c _ _ | exact Nat.le_refl _ | assumption | exact mulLe (by decide) (by omega) | exact mulLe2 (by decide) (by omega) (by omega) | (intros; simp only [BL] at *; omega) | (intros; (try simp only [BL] at *); (try simp only [DL] at *); omega) | (intros; simp only [BL] at *; rw [wr_id (by omega) (by omega)]; omega) | (intro h1 h2; exact Bool.and_eq_true_iff.2 ⟨h1, h2⟩) | exact ⟨rfl, by omega, by decide⟩ | (intros; simp_all; done))); conv => whnf)
    | (refine Or.inr (And.intro rfl ?_); first | (refine congrArg intV ?_) | (refine congrArg boolV ?_) | (refine tupII ?_ ?_) | (refine tupIII ?_ ?_ ?_) | (refine tupU ?_ ?_ ?_ ?_ ?_) | exact rfl))
  · rename_i hb1 hb2
    obtain ⟨hv, hG9⟩ := hin_i hb2 (by omega)
    have hv1 := hv.1
    have hv2 := hv.2
    have hil : (i : Int) = (F m).lo := by
      by_cases e : (i : Int) ≤ (F m).lo
      · omega
      · rw [if_neg e] at hfi; omega
    have e107 : IntKind.i64.wrap ((i : Int) + 1) = ((i + 1 : Nat) : Int) := (wr_id (by omega) (by omega)).trans (by omega)
    refine ⟨(i + 1, (i : Int), n + 1), [?_, ?_, ?_], ⟨by show i + 1 ≤ capN s; omega, by show (i : Int) = if ((i + 1 : Nat) : Int) ≤ (F m).lo then -1 else (F m).lo; rw [if_neg (by omega)]; exact hil, by show ((n + 1 : Nat) : Int) = max (min ((i + 1 : Nat) : Int) ((F m).hi + 1) - (F m).lo) 0; omega⟩, by show capN s - (i + 1) < capN s - i; omega, ?_⟩
    rotate_left 3
    refine Sub.of ?_ ?_ ?_
    repeat' (first | (refine And.intro ?_ ?_) | exact trivial | exact fun _ _ _ => hsc _ _ | (exact congrArg intV (by first | with_reducible rfl | with_reducible assumption)) | exact (rfl : AV.idsLt _ _ = true) | exact (rfl : _ = AV.ren _ (.own _)) | exact (rfl : _ = AV.ren _ (.fn _ _)) | exact (rfl : _ = AV.ren _ (.gh _)) | (exact congrArg intV (by assumption)) | (refine congrArg intV ((wr_id (by omega) (by omega)).trans (by omega))) | exact rfl | (simp only [Int.toNat_natCast, Int.toNat_zero, Nat.sub_zero, Nat.zero_add]; first | exact rfl | done) | exact all0 | exact fun h => Bool.noConfusion h | exact fun _ _ _ _ => rfl | omega)
    intro a ha b hb9
    match b, hb9 with
    | 0, _ =>
      by_cases e : a < n
      · exact if_pos e
      · have ea : a = n := by omega
        refine (if_neg e).trans ?_
        rw [ea, Nat.sub_self]
        refine congrArg iL (hG9.trans ?_)
        rw [show (i : Int) = (F m).lo + (n : Int) by omega]
  · rename_i hb1 hb2
    obtain ⟨hv, hG9⟩ := hin_i hb2 (by omega)
    have hv1 := hv.1
    have hv2 := hv.2
    have hil : ¬ (i : Int) ≤ (F m).lo := fun e => by rw [if_pos e] at hfi; omega
    have hfl : fi = (F m).lo := hfi.trans (if_neg hil)
    have e107 : IntKind.i64.wrap ((i : Int) + 1) = ((i + 1 : Nat) : Int) := (wr_id (by omega) (by omega)).trans (by omega)
    refine ⟨(i + 1, fi, n + 1), [?_, ?_, ?_], ⟨by show i + 1 ≤ capN s; omega, by show fi = if ((i + 1 : Nat) : Int) ≤ (F m).lo then -1 else (F m).lo; rw [if_neg (by omega)]; exact hfl, by show ((n + 1 : Nat) : Int) = max (min ((i + 1 : Nat) : Int) ((F m).hi + 1) - (F m).lo) 0; omega⟩, by show capN s - (i + 1) < capN s - i; omega, ?_⟩
    rotate_left 3
    refine Sub.of ?_ ?_ ?_
    repeat' (first | (refine And.intro ?_ ?_) | exact trivial | exact fun _ _ _ => hsc _ _ | (exact congrArg intV (by first | with_reducible rfl | with_reducible assumption)) | exact (rfl : AV.idsLt _ _ = true) | exact (rfl : _ = AV.ren _ (.own _)) | exact (rfl : _ = AV.ren _ (.fn _ _)) | exact (rfl : _ = AV.ren _ (.gh _)) | (exact congrArg intV (by assumption)) | (refine congrArg intV ((wr_id (by omega) (by omega)).trans (by omega))) | exact rfl | (simp only [Int.toNat_natCast, Int.toNat_zero, Nat.sub_zero, Nat.zero_add]; first | exact rfl | done) | exact all0 | exact fun h => Bool.noConfusion h | exact fun _ _ _ _ => rfl | omega)
    intro a ha b hb9
    match b, hb9 with
    | 0, _ =>
      by_cases e : a < n
      · exact if_pos e
      · have ea : a = n := by omega
        refine (if_neg e).trans ?_
        rw [ea, Nat.sub_self]
        refine congrArg iL (hG9.trans ?_)
        rw [show (i : Int) = (F m).lo + (n : Int) by omega]
  · rename_i hb1
    have hv : ¬ (F m).in i := fun h => hb (by rw [hGm i (by omega)]; exact (levV_lt hBm h2' i).2 h)
    have hv : (i : Int) < (F m).lo ∨ (F m).hi < i := Decidable.byContradiction fun h => hv ⟨by omega, by omega⟩
    have hf2 : fi = if ((i + 1 : Nat) : Int) ≤ (F m).lo then -1 else (F m).lo := by
      rcases hv with h | h
      · rw [hfi, if_pos (by omega), if_pos (by omega)]
      · rw [hfi, if_neg (by omega), if_neg (by omega)]
    have e107 : IntKind.i64.wrap ((i : Int) + 1) = ((i + 1 : Nat) : Int) := (wr_id (by omega) (by omega)).trans (by omega)
    refine ⟨(i + 1, fi, n), [?_, ?_, ?_], ⟨by show i + 1 ≤ capN s; omega, hf2, by show (n : Int) = max (min ((i + 1 : Nat) : Int) ((F m).hi + 1) - (F m).lo) 0; omega⟩, by show capN s - (i + 1) < capN s - i; omega, ?_⟩
    rotate_left 3
    refine Sub.of ?_ ?_ ?_
    repeat' (first | (refine And.intro ?_ ?_) | exact trivial | exact fun _ _ _ => hsc _ _ | (exact congrArg intV (by first | with_reducible rfl | with_reducible assumption)) | exact (rfl : AV.idsLt _ _ = true) | exact (rfl : _ = AV.ren _ (.own _)) | exact (rfl : _ = AV.ren _ (.fn _ _)) | exact (rfl : _ = AV.ren _ (.gh _)) | (exact congrArg intV (by assumption)) | (refine congrArg intV ((wr_id (by omega) (by omega)).trans (by omega))) | exact rfl | (simp only [Int.toNat_natCast, Int.toNat_zero, Nat.sub_zero, Nat.zero_add]; first | exact rfl | done) | exact all0 | exact fun h => Bool.noConfusion h | exact fun _ _ _ _ => rfl | omega)
  have ei : i = capN s := by omega
  have hfl : (F' m).lo = fi := by rw [hfi, if_neg (by omega)]; exact he1.symm
  have hhi' : (F' m).hi = (F' m).lo + S (F' m).p (F' m).n := rfl
  have hcW : ∀ k, k < n → (F m).V ((F m).lo + (k : Int)) = cW (F' m).v (F' m).n (F' m).p (F' m).q k := fun k hk => (he3 _ ⟨by omega, by omega⟩).trans (Cxt.V_at (by rw [he1]))
  refine And.intro (fun _ => ⟨is2_c _ _ _, is1_c _ _, hBm'.1, hfl, by show n = (S (F' m).p (F' m).n).toNat + 1; omega, hcW⟩) ?_
  conv => whnf
  repeat' (first
    | (refine NilG.mk fun bn hbn hbx => ?_; conv => whnf)
    | (refine Both.mk ?_ ?_ <;> conv => whnf)
    | exact trivial
    | (refine Br.mk (fun hb => ?_) (fun hb => ?_) <;> (first | (exfalso; revert hb; decide) | ((try simp only [BL] at hb) <;> (try simp only [DL] at hb) <;> conv => whnf)))
    | (refine And.intro ?_ ?_; (focus (first | exact id | exact rfl | exact trivial | (intro hg; first | exact hg | exact rfl | (simp; done) | (simp at hg ⊢; assumption)) | omega | decide | exact is2_c _ _ _ | exact is1_c _ _ | exact isS_c _ _ | exact isB_c _ _ | exact Nat.le_refl _ | assumption | exact mulLe (by decide) (by omega) | exact mulLe2 (by decide) (by omega) (by omega) | (intros; simp only [BL] at *; omega) | (intros; (try simp only [BL] at *); (try simp only [DL] at *); omega) | (intros; simp only [BL] at *; rw [wr_id (by omega) (by omega)]; omega) | (intro h1 h2; exact Bool.and_eq_true_iff.2 ⟨h1, h2⟩) | (intros; simp_all; done))); conv => whnf)
    | (refine Or.inr (And.intro rfl ?_); first | (refine congrArg intV ?_) | (refine congrArg boolV ?_) | (refine tupII ?_ ?_) | (refine tupIII ?_ ?_ ?_) | (refine tupU ?_ ?_ ?_ ?_ ?_) | exact rfl))
  clear hb
  have e0 : s.en = s.en + ((0 : Nat) : Int) := by omega
  refine sem_loop tab_ok gamSY_ok mixed (by kernel_rfl) (O := lex) (fun x : Nat × Int => ⟨[(1, .c (.sl 1 m (c1 pr))), (2, .lp 0 0), (8, .c (.sl 1 kb (c1 fl))), (9, intV cb), (10, intV eb), (14, .c (.sl 1 (m + 1) (lvF s G))), (15, .c (.sl 1 (capN s) (c1 (G m)))), (20, intV x.2), (21, intV (s.en + x.1))], [.box [intV s.C, intV s.D, intV s.cap, intV s.beg, intV s.en]]⟩) (fun x => s.en + x.1 ≤ s.cap + 1 ∧ stSrch s (F m) x.1 x.2) (fun x => (s.cap + 1 - s.en - x.1).toNat) ⟨(0, -1), [?_], ⟨by show s.en + ((0 : Nat) : Int) ≤ s.cap + 1; omega, .inl ⟨rfl, fun y _ h => by show s.en + ((0 : Nat) : Int) ≤ y; omega⟩⟩, ?_⟩ fun y hy => ?_
  rotate_left 1
  · refine Sub.of ?_ ?_ ?_
    repeat' (first | (refine And.intro ?_ ?_) | exact trivial | exact fun _ _ _ => hsc _ _ | (exact congrArg intV (by first | with_reducible rfl | with_reducible assumption)) | exact (rfl : AV.idsLt _ _ = true) | exact (rfl : _ = AV.ren _ (.own _)) | exact (rfl : _ = AV.ren _ (.fn _ _)) | exact (rfl : _ = AV.ren _ (.gh _)) | (exact congrArg intV (by assumption)) | (refine congrArg intV ((wr_id (by omega) (by omega)).trans (by omega))) | exact rfl | (simp only [Int.toNat_natCast, Int.toNat_zero, Nat.sub_zero, Nat.zero_add]; first | exact rfl | done) | exact all0 | exact fun h => Bool.noConfusion h | exact fun _ _ _ _ => rfl | omega)
  obtain ⟨z, b⟩ := y
  obtain ⟨hz, hsr⟩ := hy
  dsimp only at hz hsr ⊢
  have hen : (s.en + (z : Int)).toNat = s.en.toNat + z := by omega
  have hbR : ¬ b < 0 → 0 ≤ b ∧ b < capN s ∧ (F m).in b := fun h => by
    rcases hsr with ⟨e, -⟩ | ⟨g0, g1, g2, g3, -⟩
    · omega
    · have := g1.2
      exact ⟨g0, by omega, g1⟩
  have hGv : ∀ k, (F m).in k → G m k.toNat = (F m).V k := fun k hk => by
    have hk1 := hk.1
    have hk2 := hk.2
    have h9 := hGm k.toNat (by omega)
    rw [show ((k.toNat : Nat) : Int) = k by omega] at h9
    exact h9.trans (if_pos hk)
  have hGin : ∀ k, 0 ≤ k → k ≤ s.cap → (G m k.toNat < 1152921504606846976 ↔ (F m).in k) := fun k h1 h2 => by
    have h9 := hGm k.toNat (by omega)
    rw [show ((k.toNat : Nat) : Int) = k by omega] at h9
    rw [h9]
    exact levV_lt hBm h2' k
  have hfin : ¬ s.en + (z : Int) ≤ s.cap → ¬ b < 0 → s.en ≤ (F m).hi ∧ kb = m ∧ eb = 0 ∧ cb = G m b.toNat ∧ ∃ lv : Nat → Int, b = lv m ∧ (∀ t, t < m → stLast s (pr t) (F t) (lv t) (lv (t + 1))) ∧ ∀ t, fl t = lv (t + 1) - lv t := fun h1 h2 => by
    rcases hsr with ⟨e, -⟩ | ⟨g0, g1, g2, g3, g4⟩
    · omega
    · have g12 := g1.2
      rcases hbst with ⟨h3, -⟩ | ⟨h3, h4, h5, lv, h6, h7, h8, h9⟩
      · omega
      · have hb9 : stEnd s (F m) b := ⟨g1, g2, fun y hy h10 => g4 y hy h10 (by have := hy.2; omega)⟩
        have hbl := end_one hb9 h6
        exact ⟨h3, h4, h5, by rw [hGv b g1, h9, hbl], lv, hbl, h7, h8⟩
  have e21 : s.en + (z : Int) ≤ s.cap → IntKind.i64.wrap (s.en + (z : Int) + 1) = s.en + ((z + 1 : Nat) : Int) := fun h => (wr_id (by omega) (by omega)).trans (by omega)
  conv => whnf
  repeat' (first
    | (refine NilG.mk fun bn hbn hbx => ?_; conv => whnf)
    | (refine Both.mk ?_ ?_ <;> conv => whnf)
    | exact trivial
    | (refine Br.mk (fun hb => ?_) (fun hb => ?_) <;> (first | (exfalso; revert hb; decide) | ((try simp only [BL] at hb) <;> (try simp only [DL] at hb) <;> (first | (exfalso; omega) | (conv => whnf)))))
    | (refine And.intro ?_ ?_; (focus (first | exact id | exact rfl | exact trivial | (intro hg; first | exact hg | exact rfl | (simp; done) | (simp at hg ⊢; assumption)) | omega | decide | exact is2_c _ _ _ | exact is1_c _ _ | exact isS_c _ _ | exact isB_c _ _ | exact Nat.le_refl _ | assumption | exact mulLe (by decide) (by omega) | exact mulLe2 (by decide) (by omega) (by omega) | (intros; simp only [BL] at *; omega) | (intros; (try simp only [BL] at *); (try simp only [DL] at *); omega) | (intros; simp only [BL] at *; rw [wr_id (by omega) (by omega)]; omega) | (intro h1 h2; exact Bool.and_eq_true_iff.2 ⟨h1, h2⟩) | first | exact ⟨rfl, by omega, by decide⟩ | (intro h1 h2; have h3 := hbR (by simp only [BL] at h2; omega); omega) | (intro h2; have h3 := hbR (by simp only [BL] at h2; omega); omega) | (intros; simp_all; done))); conv => whnf)
    | (refine Or.inr (And.intro rfl ?_); first | (refine congrArg intV ?_) | (refine congrArg boolV ?_) | (refine tupII ?_ ?_) | (refine tupIII ?_ ?_ ?_) | (refine tupU ?_ ?_ ?_ ?_ ?_) | exact rfl))
  · have hv := (hGin _ (by omega) (by omega)).1 hb.1
    have h4 : b < 0 ∨ (F m).V (s.en + z) < (F m).V b := by
      rcases hb.2 with h | h
      · exact .inl h
      · by_cases h9 : b < 0
        · exact .inl h9
        · rw [hGv _ hv, hGv b (hbR h9).2.2] at h
          exact .inr h
    have e21 := e21 (by omega)
    refine ⟨(z + 1, s.en + (z : Int)), [?_], ⟨by show s.en + ((z + 1 : Nat) : Int) ≤ s.cap + 1; omega, srch_yes hsr (by omega) hv h4⟩, by show (s.cap + 1 - s.en - ((z + 1 : Nat) : Int)).toNat < (s.cap + 1 - s.en - (z : Int)).toNat; omega, ?_⟩
    rotate_left 1
    refine Sub.of ?_ ?_ ?_
    repeat' (first | (refine And.intro ?_ ?_) | exact trivial | exact fun _ _ _ => hsc _ _ | (exact congrArg intV (by first | with_reducible rfl | with_reducible assumption)) | exact (rfl : AV.idsLt _ _ = true) | exact (rfl : _ = AV.ren _ (.own _)) | exact (rfl : _ = AV.ren _ (.fn _ _)) | exact (rfl : _ = AV.ren _ (.gh _)) | (exact congrArg intV (by assumption)) | (refine congrArg intV ((wr_id (by omega) (by omega)).trans (by omega))) | exact rfl | (simp only [Int.toNat_natCast, Int.toNat_zero, Nat.sub_zero, Nat.zero_add]; first | exact rfl | done) | exact all0 | exact fun h => Bool.noConfusion h | exact fun _ _ _ _ => rfl | omega)
  · have h4 : ¬ (F m).in (s.en + z) ∨ (¬ b < 0 ∧ ¬ (F m).V (s.en + z) < (F m).V b) := by
      by_cases hv : (F m).in (s.en + z)
      · rcases hb with h | ⟨h9, h⟩
        · exact .inl fun h5 => h ((hGin _ (by omega) (by omega)).2 h5)
        · rw [hGv _ hv, hGv b (hbR h9).2.2] at h
          exact .inr ⟨h9, h⟩
      · exact .inl hv
    have e21 := e21 (by omega)
    refine ⟨(z + 1, b), [?_], ⟨by show s.en + ((z + 1 : Nat) : Int) ≤ s.cap + 1; omega, srch_no hsr (by omega) h4⟩, by show (s.cap + 1 - s.en - ((z + 1 : Nat) : Int)).toNat < (s.cap + 1 - s.en - (z : Int)).toNat; omega, ?_⟩
    rotate_left 1
    refine Sub.of ?_ ?_ ?_
    repeat' (first | (refine And.intro ?_ ?_) | exact trivial | exact fun _ _ _ => hsc _ _ | (exact congrArg intV (by first | with_reducible rfl | with_reducible assumption)) | exact (rfl : AV.idsLt _ _ = true) | exact (rfl : _ = AV.ren _ (.own _)) | exact (rfl : _ = AV.ren _ (.fn _ _)) | exact (rfl : _ = AV.ren _ (.gh _)) | (exact congrArg intV (by assumption)) | (refine congrArg intV ((wr_id (by omega) (by omega)).trans (by omega))) | exact rfl | (simp only [Int.toNat_natCast, Int.toNat_zero, Nat.sub_zero, Nat.zero_add]; first | exact rfl | done) | exact all0 | exact fun h => Bool.noConfusion h | exact fun _ _ _ _ => rfl | omega)
  · rcases hsr with ⟨-, h4⟩ | ⟨g0, -⟩
    · have h5 := h4 (F m).hi ⟨hle, Int.le_refl _⟩
      rcases hbst with ⟨-, rfl, rfl, rfl⟩ | ⟨h3, -⟩
      · rfl
      · exfalso; have := h5 h3; omega
    · exfalso; omega
  rename_i hb1 hb2
  obtain ⟨g1, g2, g3, g4, lv, hbl, hlast, hfl2⟩ := hfin hb1 hb2
  obtain rfl := g2.symm
  have hbin := (hbR hb2).2.2
  have hlin : ∀ t, t ≤ m → (F t).in (lv t) := fun t ht => by
    by_cases e : t = m
    · rw [e, ← hbl]; exact hbin
    · exact (hlast t (by omega)).1
  clear hfin hGin hGv hbR hsr hbst
  refine sem_loop tab_ok gamSY_ok mixed (by kernel_rfl) (O := lex) (fun t : Nat => ⟨[(1, .c (.sl 1 m (c1 pr))), (2, .lp 0 0), (8, .c (.sl 1 m (c1 fl))), (14, .c (.sl 1 (m + 1) (lvF s G))), (20, intV (lv t)), (22, intV ((t : Int) - 1))], [.box [intV s.C, intV s.D, intV s.cap, intV s.beg, intV s.en]]⟩) (fun t => t ≤ m) (fun t => t) ⟨m, [?_], Nat.le_refl m, ?_⟩ fun t ht => ?_
  rotate_left 1
  · refine Sub.of ?_ ?_ ?_
    repeat' (first | (refine And.intro ?_ ?_) | exact trivial | exact fun _ _ _ => hsc _ _ | (exact congrArg intV (by first | with_reducible rfl | with_reducible assumption)) | exact (rfl : AV.idsLt _ _ = true) | exact (rfl : _ = AV.ren _ (.own _)) | exact (rfl : _ = AV.ren _ (.fn _ _)) | exact (rfl : _ = AV.ren _ (.gh _)) | (exact congrArg intV (by assumption)) | (refine congrArg intV ((wr_id (by omega) (by omega)).trans (by omega))) | exact rfl | (simp only [Int.toNat_natCast, Int.toNat_zero, Nat.sub_zero, Nat.zero_add]; first | exact rfl | done) | exact all0 | exact fun h => Bool.noConfusion h | exact fun _ _ _ _ => rfl | omega)
  by_cases ht0 : t = 0
  · subst ht0
    conv => whnf
    repeat' (first
      | (refine NilG.mk fun bn hbn hbx => ?_; conv => whnf)
      | (refine Both.mk ?_ ?_ <;> conv => whnf)
      | exact trivial
      | (refine Br.mk (fun hb => ?_) (fun hb => ?_) <;> (first | (exfalso; revert hb; decide) | ((try simp only [BL] at hb) <;> (try simp only [DL] at hb) <;> (first | (exfalso; omega) | (conv => whnf)))))
      | (refine And.intro ?_ ?_; (focus (first | exact id | exact rfl | exact trivial | (intro hg; first | exact hg | exact rfl | (simp; done) | (simp at hg ⊢; assumption)) | omega | decide | exact is2_c _ _ _ | exact is1_c _ _ | exact isS_c _ _ | exact isB_c _ _ | exact Nat.le_refl _ | assumption | exact mulLe (by decide) (by omega) | exact mulLe2 (by decide) (by omega) (by omega) | (intros; simp only [BL] at *; omega) | (intros; (try simp only [BL] at *); (try simp only [DL] at *); omega) | (intros; simp only [BL] at *; rw [wr_id (by omega) (by omega)]; omega) | (intro h1 h2; exact Bool.and_eq_true_iff.2 ⟨h1, h2⟩) | (intros; simp_all; done))); conv => whnf)
      | (refine Or.inr (And.intro rfl ?_); first | (refine congrArg intV ?_) | (refine congrArg boolV ?_) | (refine tupII ?_ ?_) | (refine tupIII ?_ ?_ ?_) | (refine tupU ?_ ?_ ?_ ?_ ?_) | exact rfl))
    · rfl
  obtain ⟨j, rfl⟩ : ∃ j, t = j + 1 := ⟨t - 1, by omega⟩
  have ej : (((j + 1 : Nat) : Int) - 1).toNat = j := by omega
  have ej1 : ((j + 1 : Nat) : Int) - 1 = (j : Int) := by omega
  have wD : IntKind.i64.wrap (0 - s.D) = -s.D := (wr_id (by omega) (by omega)).trans (by omega)
  conv => whnf
  repeat' (first
    | (refine NilG.mk fun bn hbn hbx => ?_; conv => whnf)
    | (refine Both.mk ?_ ?_ <;> conv => whnf)
    | exact trivial
    | (refine Br.mk (fun hb => ?_) (fun hb => ?_) <;> (first | (exfalso; revert hb; decide) | ((try simp only [BL] at hb) <;> (try simp only [DL] at hb) <;> (first | (exfalso; omega) | (conv => whnf)))))
    | (refine And.intro ?_ ?_; (focus (first | exact id | exact rfl | exact trivial | (intro hg; first | exact hg | exact rfl | (simp; done) | (simp at hg ⊢; assumption)) | omega | decide | exact is2_c _ _ _ | exact is1_c _ _ | exact isS_c _ _ | exact isB_c _ _ | exact Nat.le_refl _ | assumption | exact mulLe (by decide) (by omega) | exact mulLe2 (by decide) (by omega) (by omega) | (intros; simp only [BL] at *; omega) | (intros; (try simp only [BL] at *); (try simp only [DL] at *); omega) | (intros; simp only [BL] at *; rw [wr_id (by omega) (by omega)]; omega) | (intro h1 h2; exact Bool.and_eq_true_iff.2 ⟨h1, h2⟩) | (intros; simp_all; done))); conv => whnf)
    | (refine Or.inr (And.intro rfl ?_); first | (refine congrArg intV ?_) | (refine congrArg boolV ?_) | (refine tupII ?_ ?_) | (refine tupIII ?_ ?_ ?_) | (refine tupU ?_ ?_ ?_ ?_ ?_) | exact rfl))
  have hBj := hc.2.2 j (by omega)
  have hBk := hc.2.2 (j + 1) (by omega)
  have hl := hlast j (by omega)
  have hkin := hlin (j + 1) ht
  have hkV := lv_eq (hc.2.1 j (by omega)) hkin hl
  have hpj := h3 j (by omega)
  have hb1 := hl.1.1
  have hb2' := hl.1.2
  have hk1 := hkin.1
  have hk2 := hkin.2
  have hjlo := hBj.2.1
  have hjhi := hBj.2.2.1
  have hklo := hBk.2.1
  have hkhi := hBk.2.2.1
  have hl2 := hl.2.1
  have hl3 := hl.2.2.1
  have hGj : ∀ k, 0 ≤ k → k ≤ s.cap → G j k.toNat = levV (F j) k := fun k h1 h2 => by
    have h9 := hG j (by omega) k.toNat (by omega)
    rwa [show ((k.toNat : Nat) : Int) = k by omega] at h9
  have hGk : G (j + 1) (lv (j + 1)).toNat = (F (j + 1)).V (lv (j + 1)) := by
    have h9 := hG (j + 1) ht (lv (j + 1)).toNat (by omega)
    rw [show (((lv (j + 1)).toNat : Nat) : Int) = lv (j + 1) by omega] at h9
    exact h9.trans (if_pos hkin)
  refine sem_loop tab_ok gamSY_ok mixed (by kernel_rfl) (O := lex) (fun z : Nat => ⟨[(1, .c (.sl 1 m (c1 pr))), (2, .lp 0 0), (8, .c (.sl 1 m (c1 fl))), (14, .c (.sl 1 (m + 1) (lvF s G))), (20, intV (lv (j + 1))), (22, intV (((j + 1 : Nat) : Int) - 1)), (23, intV (-s.D + (z : Int)))], [.box [intV s.C, intV s.D, intV s.cap, intV s.beg, intV s.en]]⟩) (fun z => -s.D + (z : Int) ≤ lv (j + 1) - lv j) (fun z => (lv (j + 1) - lv j + s.D - z).toNat) ⟨0, [?_], (by show -s.D + ((0 : Nat) : Int) ≤ lv (j + 1) - lv j; omega), ?_⟩ fun z hz => ?_
  rotate_left 1
  · refine Sub.of ?_ ?_ ?_
    repeat' (first | (refine And.intro ?_ ?_) | exact trivial | exact fun _ _ _ => hsc _ _ | (exact congrArg intV (by first | with_reducible rfl | with_reducible assumption)) | exact (rfl : AV.idsLt _ _ = true) | exact (rfl : _ = AV.ren _ (.own _)) | exact (rfl : _ = AV.ren _ (.fn _ _)) | exact (rfl : _ = AV.ren _ (.gh _)) | (exact congrArg intV (by assumption)) | (refine congrArg intV ((wr_id (by omega) (by omega)).trans (by omega))) | exact rfl | (simp only [Int.toNat_natCast, Int.toNat_zero, Nat.sub_zero, Nat.zero_add]; first | exact rfl | done) | exact all0 | exact fun h => Bool.noConfusion h | exact fun _ _ _ _ => rfl | omega)
  have wI : IntKind.i64.wrap (lv (j + 1) - (-s.D + (z : Int))) = lv (j + 1) - (-s.D + (z : Int)) := wr_id (by omega) (by omega)
  have w1 : IntKind.i64.wrap (((j + 1 : Nat) : Int) - 1 + 1) = ((j + 1 : Nat) : Int) := (wr_id (by omega) (by omega)).trans (by omega)
  have w2 : (IntKind.i64.wrap (((j + 1 : Nat) : Int) - 1 + 1)).toNat = j + 1 := by rw [w1]; omega
  have hval : ∀ k, (F j).in k → G j k.toNat = (F j).V k ∧ ¬ G j k.toNat = 1152921504606846976 := fun k hk => by
    have hk3 := hk.1
    have hk4 := hk.2
    have h9 := hGj k (by omega) (by omega)
    have h8 : levV (F j) k = (F j).V k := if_pos hk
    have h7 := (levV_lt hBj (by omega) k).2 hk
    rw [← h9] at h7
    unfold NEV at h7
    exact ⟨h9.trans h8, by omega⟩
  have hsum : (F j).in (lv (j + 1) - (-s.D + (z : Int))) → IntKind.i64.wrap (G j (lv (j + 1) - (-s.D + (z : Int))).toNat + IntKind.i64.wrap (pr j * (-s.D + (z : Int)))) = (F j).V (lv (j + 1) - (-s.D + (z : Int))) + pr j * (-s.D + (z : Int)) := fun hk => by
    have hpb := pr_bd hpj (d := -s.D + (z : Int)) ⟨by omega, by omega⟩
    have hVb := hBj.2.2.2.2 _ hk
    have e1 : IntKind.i64.wrap (pr j * (-s.D + (z : Int))) = pr j * (-s.D + (z : Int)) := wr_id (by omega) (by omega)
    rw [e1, (hval _ hk).1]
    exact wr_id (by omega) (by omega)
  have hmore : (((lv (j + 1) - (-s.D + (z : Int)) ≥ 0 ∧ lv (j + 1) - (-s.D + (z : Int)) ≤ s.cap) ∧ ¬ G j (lv (j + 1) - (-s.D + (z : Int))).toNat = 1152921504606846976) ∧ IntKind.i64.wrap (G j (lv (j + 1) - (-s.D + (z : Int))).toNat + IntKind.i64.wrap (pr j * (-s.D + (z : Int)))) = G (j + 1) (lv (j + 1)).toNat) ↔ -s.D + (z : Int) = lv (j + 1) - lv j := by
    constructor
    · rintro ⟨⟨⟨c1, c2⟩, c3⟩, c4⟩
      refine Decidable.byContradiction fun hne => ?_
      have hk : (F j).in (lv (j + 1) - (-s.D + (z : Int))) := by
        by_cases h : (F j).in (lv (j + 1) - (-s.D + (z : Int)))
        · exact h
        · exact absurd ((hGj _ c1 c2).trans (if_neg h)) c3
      have h9 := (hl.2.2.2 _ hk (by omega) (by omega)).2 (by omega)
      rw [hsum hk, hGk, hkV] at c4
      rw [show lv (j + 1) - (lv (j + 1) - (-s.D + (z : Int))) = -s.D + (z : Int) by omega] at h9
      omega
    · intro e
      have eK : lv (j + 1) - (-s.D + (z : Int)) = lv j := by omega
      have hk : (F j).in (lv (j + 1) - (-s.D + (z : Int))) := by rw [eK]; exact hl.1
      have h9 := hsum hk
      refine ⟨⟨⟨by omega, by omega⟩, (hval _ hk).2⟩, ?_⟩
      rw [h9, hGk, hkV, eK, e]
  conv => whnf
  repeat' (first
    | (refine NilG.mk fun bn hbn hbx => ?_; conv => whnf)
    | (refine Both.mk ?_ ?_ <;> conv => whnf)
    | exact trivial
    | (refine Br.mk (fun hb => ?_) (fun hb => ?_) <;> (first | (exfalso; revert hb; decide) | ((try simp only [BL] at hb) <;> (try simp only [DL] at hb) <;> (first | (exfalso; omega) | (conv => whnf)))))
    | (refine And.intro ?_ ?_; (focus (first | exact id | exact rfl | exact trivial | (intro hg; first | exact hg | exact rfl | (simp; done) | (simp at hg ⊢; assumption)) | omega | decide | exact is2_c _ _ _ | exact is1_c _ _ | exact isS_c _ _ | exact isB_c _ _ | exact Nat.le_refl _ | assumption | exact mulLe (by decide) (by omega) | exact mulLe2 (by decide) (by omega) (by omega) | (intros; simp only [BL] at *; omega) | (intros; (try simp only [BL] at *); (try simp only [DL] at *); omega) | (intros; simp only [BL] at *; rw [wr_id (by omega) (by omega)]; omega) | (intro h1 h2; exact Bool.and_eq_true_iff.2 ⟨h1, h2⟩) | first | exact ⟨rfl, by omega, by decide⟩ | (intros; simp only [inB, BL] at *; omega) | (intros; simp_all; done))); conv => whnf)
    | (refine Or.inr (And.intro rfl ?_); first | (refine congrArg intV ?_) | (refine congrArg boolV ?_) | (refine tupII ?_ ?_) | (refine tupIII ?_ ?_ ?_) | (refine tupU ?_ ?_ ?_ ?_ ?_) | exact rfl))
  · rw [wI, ej, w2] at hb
    have hlt : ¬ -s.D + (z : Int) = lv (j + 1) - lv j := fun e => by
      obtain ⟨⟨⟨c1, c2⟩, c3⟩, c4⟩ := hmore.2 e
      rcases hb with ((h | h) | h) | h
      · exact h c1
      · exact h c2
      · exact c3 h
      · exact h c4
    have e23 : IntKind.i64.wrap (-s.D + (z : Int) + 1) = -s.D + ((z + 1 : Nat) : Int) := (wr_id (by omega) (by omega)).trans (by omega)
    refine ⟨z + 1, [?_], by omega, by omega, ?_⟩
    rotate_left 1
    refine Sub.of ?_ ?_ ?_
    repeat' (first | (refine And.intro ?_ ?_) | exact trivial | exact fun _ _ _ => hsc _ _ | (exact congrArg intV (by first | with_reducible rfl | with_reducible assumption)) | exact (rfl : AV.idsLt _ _ = true) | exact (rfl : _ = AV.ren _ (.own _)) | exact (rfl : _ = AV.ren _ (.fn _ _)) | exact (rfl : _ = AV.ren _ (.gh _)) | (exact congrArg intV (by assumption)) | (refine congrArg intV ((wr_id (by omega) (by omega)).trans (by omega))) | exact rfl | (simp only [Int.toNat_natCast, Int.toNat_zero, Nat.sub_zero, Nat.zero_add]; first | exact rfl | done) | exact all0 | exact fun h => Bool.noConfusion h | exact fun _ _ _ _ => rfl | omega)
  · rename_i hb9
    rw [wI, ej, w2] at hb9
    have e := hmore.1 hb9
    exact absurd ((hfl2 j).trans e.symm) (by rw [← ej]; exact hb)
  · rename_i hb9
    rw [wI, ej, w2] at hb9
    have e := hmore.1 hb9
    have e20 : IntKind.i64.wrap (lv (j + 1) - (-s.D + (z : Int))) = lv j := by rw [wI]; omega
    refine ⟨j, [?_], by omega, by omega, ?_⟩
    rotate_left 1
    refine Sub.of ?_ ?_ ?_
    repeat' (first | (refine And.intro ?_ ?_) | exact trivial | exact fun _ _ _ => hsc _ _ | (exact congrArg intV (by first | with_reducible rfl | with_reducible assumption)) | exact (rfl : AV.idsLt _ _ = true) | exact (rfl : _ = AV.ren _ (.own _)) | exact (rfl : _ = AV.ren _ (.fn _ _)) | exact (rfl : _ = AV.ren _ (.gh _)) | (exact congrArg intV (by assumption)) | (refine congrArg intV ((wr_id (by omega) (by omega)).trans (by omega))) | exact rfl | (simp only [Int.toNat_natCast, Int.toNat_zero, Nat.sub_zero, Nat.zero_add]; first | exact rfl | done) | exact all0 | exact fun h => Bool.noConfusion h | exact fun _ _ _ _ => rfl | omega)

theorem storageBest_own : ownKnob Try.prog.godebug = none := by kernel_rfl
theorem storageBest_laid : laidOutB Try.prog = true := by kernel_rfl

set_option maxRecDepth 100000 in
theorem storageBest_lifted (os : Os) (started : os.Started) (H : Type) (enc : TypeId × Value → H) :
    ReturnsInHanded {} Try.checked os 5 .any (Rows.storageBestSpec.pre6 enc Try.prog Try.f5 Rows.storageBestRow.domain false) (Rows.storageBestSpec.post enc Try.prog Try.f5 false true false false) := by
  refine returnsInHanded_of_change (C := Try.checked) storageBest_own started (by kernel_rfl) Try.func5
    (ChangeSpec.witness6 (enc := enc) (C := Try.checked) false ⟨#[], #[.agg #[.int .i64 0, .int .i64 0, .int .i64 0, .int .i64 0, .int .i64 0], .slice none 0 0], []⟩ 8 (by kernel_rfl) (by kernel_rfl) (by kernel_rfl) (by kernel_rfl)) ?_
  intro W base args ds gs before hval0 hW hcnd _
  have hval : ∀ (j : Nat) t v, Try.f5.params[j]? = some t → args[j]? = some v → Value.okWide Try.prog W .any base t v := hval0
  have hW' : DataW.Whole enc Try.prog Try.f5.params.toList Rows.storageBestSpec.vars false W args.toList ds gs before := hW
  exact law_post (P := Try.prog) [.st (.cons (.i .i64) (.cons (.i .i64) (.cons (.i .i64) (.cons (.i .i64) (.cons (.i .i64) .nil))))), .sl (.i .i64)] (by kernel_rfl) storageBest_laid (by kernel_rfl) rfl (tb := 4) rfl (by kernel_rfl) (fun ds h => by
    match ds, h with
    | [d1, d2], _ => rfl) (fun x hx => sbLaw ⟨x.1.1, x.1.2.1, x.1.2.2.1, x.1.2.2.2.1, x.1.2.2.2.2.1⟩ x.2.1.1 x.2.1.2 hx.2.1.1) W args ds gs before hval hW'

theorem storageBest_holds : Rows.StorageBestSaid :=
  OpenClaim.holds_of_wide 5 Try.f5 rfl rfl rfl rfl rfl rfl rfl ⟨rfl, rfl, rfl, rfl, rfl⟩ rfl rfl rfl rfl rfl (by kernel_rfl) Try.func5 (by kernel_rfl)
    (of_decide_eq_true (by kernel_rfl)) (by unfold Func.isWrapper; rw [if_neg (by decide +kernel)]; exact ⟨rfl, rfl⟩)
    (fun os started H enc _ => storageBest_lifted os started H enc)

end Go.Proofs.Ytkkkldhilofgmaa
