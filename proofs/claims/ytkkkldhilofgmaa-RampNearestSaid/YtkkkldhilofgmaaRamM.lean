/-
  Ramps: ramp.Nearest.
-/
import Derived.Test.YtkkkldhilofgmaaRamD
import Derived.Test.YtkkkldhilofgmaaCvx2
namespace Go.Proofs.Ytkkkldhilofgmaa
open Go.RowKit

def ordRN : Ord := fun id => if id = 15 then some (.go 0 (.go 1 (.go 2 (.fork (.alt 3 (.fork (.alt 4 (.fork (.alt 5 (.go 6 (.go 7 (.go 8 (.go 9 (.go 10 (.go 11 (.done))))))) (.alt 9 (.go 5 (.go 6 (.go 7 (.go 8 (.go 10 (.go 11 (.done))))))) (.none)))) (.alt 9 (.go 4 (.go 5 (.go 6 (.go 7 (.go 8 (.go 10 (.go 11 (.done)))))))) (.none)))) (.alt 4 (.fork (.alt 3 (.fork (.alt 5 (.go 6 (.go 7 (.go 8 (.go 9 (.go 10 (.go 11 (.done))))))) (.alt 9 (.go 5 (.go 6 (.go 7 (.go 8 (.go 10 (.go 11 (.done))))))) (.none)))) (.alt 9 (.go 3 (.go 5 (.go 6 (.go 7 (.go 8 (.go 10 (.go 11 (.done)))))))) (.none)))) (.alt 9 (.go 3 (.go 4 (.go 5 (.go 6 (.go 7 (.go 8 (.go 10 (.go 11 (.done))))))))) (.none)))))))) else if id = 19 then some (.go 1 (.go 2 (.go 3 (.go 4 (.fork (.alt 0 (.go 5 (.go 6 (.go 7 (.go 8 (.go 9 (.go 10 (.done))))))) (.alt 5 (.go 0 (.go 6 (.go 7 (.go 8 (.go 9 (.go 10 (.done))))))) (.none)))))))) else none
/-- what Least answers -/
def lsX (g : Cxt) : Int := if cxE g.lo g.v g.n g.p g.q = 0 then g.lo + S (SP1 g.p g.q 0) g.n else 0
def lsV (g : Cxt) : Int := if cxE g.lo g.v g.n g.p g.q = 0 then g.v + S (ct g.p g.q (S (SP1 g.p g.q 0) g.n)) g.n else 0
theorem leastT (f : Cxt) (hn : f.n ≤ 64) : Fn1 Try.prog 75 [f.av] (.tup [intV (lsX f), intV (lsV f), intV (cxE f.lo f.v f.n f.p f.q)]) := cxLeast f.lo f.v f.n f.p f.q (by unfold maxLen; omega)
theorem lsX_ok {f : Cxt} (h : f.ok) : lsX f = f.at 0 := if_pos (ok_cxE h)
theorem lsV_ok {f : Cxt} (h : f.ok) : lsV f = f.V (f.at 0) := by
  unfold lsV
  rw [if_pos (ok_cxE h)]
  have h1 := SP1_in (q := f.q) (okCx.pos h) 0
  obtain ⟨m, hm⟩ : ∃ m : Nat, S (SP1 f.p f.q 0) f.n = (m : Int) := ⟨(S (SP1 f.p f.q 0) f.n).toNat, by omega⟩
  rw [Cxt.V_at (f := f) (m := m) (by unfold Cxt.at; omega), hm]
  rfl
/-- what Nearest answers -/
def nearK (s : Ram) (mp : Nat) (obs : List OB) (r : AV) : Prop := obs = [] ∧ ∃ (k : Nat) (sc : Nat → Int) (d e : Int), r = .tup [.c (.sl 1 k (c1 sc)), intV d, intV e] ∧
  ((rmE s ≠ 0 ∧ k = 0 ∧ d = 0 ∧ e = rmE s) ∨ (rmE s = 0 ∧ mp ≠ s.m ∧ k = 0 ∧ d = 0 ∧ e = 3) ∨ (rmE s = 0 ∧ mp = s.m ∧ ¬ rmPl s ∧ k = 0 ∧ d = 0 ∧ e = 4) ∨
   (rmE s = 0 ∧ mp = s.m ∧ rmPl s ∧ (rmS s → ((∃ t F, rmNo s t F) ∧ k = 0 ∧ d = 0 ∧ e = 8) ∨
     ∃ F, rmCh s s.m F ∧ k = s.m ∧ e = 0 ∧ ∃ lv : Nat → Int, rmEnd (F s.m) (lv s.m) ∧ (∀ t, 1 ≤ t → t < s.m → rmPrev s (F t) (lv (t + 1)) (lv t)) ∧ (∀ t, t < s.m → sc t = lv (t + 1)) ∧ d = if s.m = 0 then 0 else (F s.m).V (lv s.m))))
structure Kept (A : Prop) : Prop where
  v : A
theorem LoopG.sub {P : Program} {N : Nat} {c : Code} {S S' : AS} {K : Ex → AS → Prop} (h : LoopG P N c S' K) (h0 : ∃ (x : Nat) (π : List Nat), True ∧ 0 < 1 ∧ Sub π S S') : LoopG P N c S K := by
  obtain ⟨_, π, _, _, hs⟩ := h0
  exact ⟨fun w0 I0 σ I a w hd hN hr => h.sem w0 I0 _ I a w hd hN (hr.sub hs)⟩
theorem shareP (B : Prop) {A G : Prop} (h : Kept (B → A) → G) (a : B → A) : G := h ⟨a⟩
theorem OLe.box {cs cs' : List AV} (h : Le cs cs') : OLe (.box cs) (.box cs') := ⟨rfl, fun σ I w i hr => by
  obtain ⟨b, us, ty, h1, h2, h3, h4⟩ := hr
  exact ⟨b, us, ty, h1, h2, h _ _ _ _ h3, h4⟩⟩
set_option maxHeartbeats 8000000 in
set_option maxRecDepth 100000 in
theorem rmNear0 (s : Ram) (mp : Nat) (hm : s.m ≤ maxLen) (hp : mp ≤ maxLen) : Fn Try.prog 28 [.c (.sl 2 s.m (c2 s.lo s.hi)), intV s.now, intV s.up, intV s.dn, .c (.sl 1 mp (c1 s.pl))] (fun obs r => ∃ r', nearK s mp obs r' ∧ Le1 r r') := by
  refine fn_of_wpx (O := ordRN) tab_ok (Γ := fun _ => none) (fun _ _ h => by cases h) mixed Try.func28 (by kernel_rfl) rfl rfl rfl (by simp [Try.ntmps28]) (by kernel_rfl) ?_
  conv => whnf
  repeat' (first
    | (refine NilG.mk fun bn hbn hbx => ?_; conv => whnf)
    | (refine Both.mk ?_ ?_ <;> conv => whnf)
    | exact trivial
    | (refine Br.mk (fun hb => ?_) (fun hb => ?_) <;> (first | (exfalso; revert hb; decide) | ((try simp only [BL] at hb) <;> (try simp only [DL] at hb) <;> conv => whnf)))
    | (refine And.intro ?_ ?_; (focus (first | exact id | exact rfl | exact trivial | (intro hg; first | exact hg | exact rfl | (simp; done) | (simp at hg ⊢; assumption)) | omega | decide | exact is2_c _ _ _ | exact is1_c _ _ | exact isS_c _ _ | exact isB_c _ _ | exact Nat.le_refl _ | assumption | exact mulLe (by decide) (by omega) | exact mulLe2 (by decide) (by omega) (by omega) | (intros; simp only [BL] at *; omega) | (intros; (try simp only [BL] at *); (try simp only [DL] at *); omega) | (intros; simp only [BL] at *; rw [wr_id (by omega) (by omega)]; omega) | (intro h1 h2; exact Bool.and_eq_true_iff.2 ⟨h1, h2⟩) | (intros; simp_all; done))); conv => whnf)
    | (refine Or.inr (And.intro rfl ?_); first | (refine congrArg intV ?_) | (refine congrArg boolV ?_) | (refine tupII ?_ ?_) | (refine tupIII ?_ ?_ ?_) | (refine tupU ?_ ?_ ?_ ?_ ?_) | exact rfl))
  refine CallG.mk (Fn.mono (rmChk s hm) ?_)
  rintro obs r ⟨rfl, rfl⟩
  conv => whnf
  repeat' (first
    | (refine NilG.mk fun bn hbn hbx => ?_; conv => whnf)
    | (refine Both.mk ?_ ?_ <;> conv => whnf)
    | exact trivial
    | (refine Br.mk (fun hb => ?_) (fun hb => ?_) <;> (first | (exfalso; revert hb; decide) | ((try simp only [BL] at hb) <;> (try simp only [DL] at hb) <;> conv => whnf)))
    | (refine And.intro ?_ ?_; (focus (first | exact id | exact rfl | exact trivial | (intro hg; first | exact hg | exact rfl | (simp; done) | (simp at hg ⊢; assumption)) | omega | decide | exact is2_c _ _ _ | exact is1_c _ _ | exact isS_c _ _ | exact isB_c _ _ | exact Nat.le_refl _ | assumption | exact mulLe (by decide) (by omega) | exact mulLe2 (by decide) (by omega) (by omega) | (intros; simp only [BL] at *; omega) | (intros; (try simp only [BL] at *); (try simp only [DL] at *); omega) | (intros; simp only [BL] at *; rw [wr_id (by omega) (by omega)]; omega) | (intro h1 h2; exact Bool.and_eq_true_iff.2 ⟨h1, h2⟩) | (intros; simp_all; done))); conv => whnf)
    | (refine Or.inr (And.intro rfl ?_); first | (refine congrArg intV ?_) | (refine congrArg boolV ?_) | (refine tupII ?_ ?_) | (refine tupIII ?_ ?_ ?_) | (refine tupU ?_ ?_ ?_ ?_ ?_) | exact rfl))
  · exact .inr ⟨_, ⟨rfl, 0, fun _ => 0, 0, _, rfl, .inl ⟨hb, rfl, rfl, rfl⟩⟩, Le1.tup (Le.cons Le1.nil (Le.cons (Le1.refl _) (Le.cons (Le1.refl _) Le.nil)))⟩
  · rename_i h0
    exact .inr ⟨_, ⟨rfl, 0, fun _ => 0, 0, 3, rfl, .inr (.inl ⟨h0, by omega, rfl, rfl, rfl⟩)⟩, Le1.tup (Le.cons Le1.nil (Le.cons (Le1.refl _) (Le.cons (Le1.refl _) Le.nil)))⟩
  rename_i h0
  obtain rfl : mp = s.m := by omega
  refine CallG.mk (Fn.mono (rmPC s.m s.pl hm) ?_)
  rintro obs r ⟨rfl, rfl⟩
  have hb47 : e47.bytes = 16 := rfl
  have hok : rmOk s := by
    unfold rmE at h0
    split at h0
    · cases h0
    · split at h0
      · assumption
      · cases h0
  obtain ⟨-, ⟨n1, n2⟩, ⟨u1, u2⟩, d1, d2⟩ := hok
  have w1 : IntKind.i64.wrap (0 - s.dn) = -s.dn := (wr_id (by omega) (by omega)).trans (by omega)
  have w2 : IntKind.i64.wrap (s.up + s.dn) = s.up + s.dn := wr_id (by omega) (by omega)
  apply shareP (rmPl s)
  · intro key
    conv => whnf
    repeat' (first
      | (refine NilG.mk fun bn hbn hbx => ?_; conv => whnf)
      | (refine Both.mk ?_ ?_ <;> conv => whnf)
      | exact trivial
      | (refine Br.mk (fun hb => ?_) (fun hb => ?_) <;> (first | (exfalso; revert hb; decide) | ((try simp only [BL] at hb) <;> (try simp only [DL] at hb) <;> conv => whnf)))
      | (refine And.intro ?_ ?_; (focus (first | exact id | exact rfl | exact trivial | (intro hg; first | exact hg | exact rfl | (simp; done) | (simp at hg ⊢; assumption)) | omega | decide | exact is2_c _ _ _ | exact is1_c _ _ | exact isS_c _ _ | exact isB_c _ _ | exact Nat.le_refl _ | assumption | exact mulLe (by decide) (by omega) | exact mulLe2 (by decide) (by omega) (by omega) | (intros; simp only [BL] at *; omega) | (intros; (try simp only [BL] at *); (try simp only [DL] at *); omega) | (intros; simp only [BL] at *; rw [wr_id (by omega) (by omega)]; omega) | (intro h1 h2; exact Bool.and_eq_true_iff.2 ⟨h1, h2⟩) | (intros; simp_all; done))); conv => whnf)
      | (refine Or.inr (And.intro rfl ?_); first | (refine congrArg intV ?_) | (refine congrArg boolV ?_) | (refine tupII ?_ ?_) | (refine tupIII ?_ ?_ ?_) | (refine tupU ?_ ?_ ?_ ?_ ?_) | exact rfl))
    · refine .inr ⟨_, ⟨rfl, 0, fun _ => 0, 0, 4, rfl, .inr (.inr (.inl ⟨h0, rfl, fun h => ?_, rfl, rfl, rfl⟩))⟩, Le1.tup (Le.cons Le1.nil (Le.cons (Le1.refl _) (Le.cons (Le1.refl _) Le.nil)))⟩
      rw [fidx_none fun k hk => by
        have := h k hk
        unfold oB
        rw [Bool.or_eq_false_iff]
        exact ⟨decide_eq_false (by omega), decide_eq_false (by omega)⟩] at hb
      exact absurd hb (by decide)
    · rename_i hnb
      have hpl : rmPl s := fun k hk => by have := oB_f (fidx_neg hnb k hk); omega
      have hmn : (movC s).n = 1 := if_pos (by omega)
      refine LoopG.frz [1] ?_
      refine LoopG.objs [.box [intV (-s.dn), intV ((-s.dn) * 0), .c (.sl 2 (movC s).n (c2 (movC s).p (movC s).q))], .dead, .row 41 3 1 false (cF fun _ => nowC s)] ⟨OLe.box (Le.cons (Le1.of_eq (congrArg intV w1)) (Le.cons (Le1.of_eq (congrArg intV (Int.mul_zero _).symm)) (Le.cons ?_ Le.nil))), OLe.refl _, OLe.rowL fun k hk j hj => ?_, trivial⟩ ?_
      · rw [hmn]
        exact Le1.sl fun k hk j hj => by
          match k, j, hk, hj with
          | 0, 0, _, _ => exact congrArg iL (w2.trans (by show s.up + s.dn = s.up - -s.dn; omega))
          | 0, 1, _, _ => rfl
      · match k, j, hk, hj with
        | 0, 0, _, _ => exact LLe.of_eq rfl
        | 0, 1, _, _ => exact LLe.of_eq rfl
        | 0, 2, _, _ => exact LLe.nil
      · refine LoopG.sub (S' := ⟨[(0, .c (.sl 2 s.m (c2 s.lo s.hi))), (2, intV s.up), (3, intV s.dn), (4, .c (.sl 1 s.m (c1 s.pl))), (14, .lp 0 0), (15, .own 1), (61, .c (.sl 2 s.m (c2 s.lo s.hi))), (62, intV s.m), (63, intV 0)], [.box [intV (-s.dn), intV ((-s.dn) * 0), .c (.sl 2 (movC s).n (c2 (movC s).p (movC s).q))], .row 41 3 1 false (cF fun _ => nowC s)]⟩) (key.v hpl) ?_
        refine ⟨0, [?_, ?_], trivial, by decide, ?_⟩
        rotate_left 2
        refine Sub.of ?_ ?_ ?_
        repeat' (first | (refine And.intro ?_ ?_) | exact trivial | exact fun _ _ _ => hsc _ _ | (exact congrArg intV (by first | with_reducible rfl | with_reducible assumption)) | exact (rfl : AV.idsLt _ _ = true) | exact (rfl : _ = AV.ren _ (.own _)) | exact (rfl : _ = AV.ren _ (.fn _ _)) | exact (rfl : _ = AV.ren _ (.gh _)) | (exact congrArg intV (by assumption)) | (refine congrArg intV ((wr_id (by omega) (by omega)).trans (by omega))) | exact rfl | (simp only [Int.toNat_natCast, Int.toNat_zero, Nat.sub_zero, Nat.zero_add]; first | exact rfl | done) | exact all0 | exact fun h => Bool.noConfusion h | exact fun _ _ _ _ => rfl | omega)
    · rename_i hnb
      have hpl : rmPl s := fun k hk => by have := oB_f (fidx_neg hnb k hk); omega
      have hmn : (movC s).n = 0 := if_neg (by omega)
      refine LoopG.objs [.box [intV (-s.dn), intV ((-s.dn) * 0), .c (.sl 2 (movC s).n (c2 (movC s).p (movC s).q))], .row 41 3 1 false (cF fun _ => nowC s)] ⟨OLe.box (Le.cons (Le1.of_eq (congrArg intV w1)) (Le.cons (Le1.of_eq (congrArg intV (Int.mul_zero _).symm)) (Le.cons ?_ Le.nil))), OLe.rowL fun k hk j hj => ?_, trivial⟩ ?_
      · rw [hmn]
        exact Le1.nil
      · match k, j, hk, hj with
        | 0, 0, _, _ => exact LLe.of_eq rfl
        | 0, 1, _, _ => exact LLe.of_eq rfl
        | 0, 2, _, _ => exact LLe.nil
      · refine LoopG.sub (S' := ⟨[(0, .c (.sl 2 s.m (c2 s.lo s.hi))), (2, intV s.up), (3, intV s.dn), (4, .c (.sl 1 s.m (c1 s.pl))), (14, .lp 0 0), (15, .own 1), (61, .c (.sl 2 s.m (c2 s.lo s.hi))), (62, intV s.m), (63, intV 0)], [.box [intV (-s.dn), intV ((-s.dn) * 0), .c (.sl 2 (movC s).n (c2 (movC s).p (movC s).q))], .row 41 3 1 false (cF fun _ => nowC s)]⟩) (key.v hpl) ?_
        refine ⟨0, [?_, ?_], trivial, by decide, ?_⟩
        rotate_left 2
        refine Sub.of ?_ ?_ ?_
        repeat' (first | (refine And.intro ?_ ?_) | exact trivial | exact fun _ _ _ => hsc _ _ | (exact congrArg intV (by first | with_reducible rfl | with_reducible assumption)) | exact (rfl : AV.idsLt _ _ = true) | exact (rfl : _ = AV.ren _ (.own _)) | exact (rfl : _ = AV.ren _ (.fn _ _)) | exact (rfl : _ = AV.ren _ (.gh _)) | (exact congrArg intV (by assumption)) | (refine congrArg intV ((wr_id (by omega) (by omega)).trans (by omega))) | exact rfl | (simp only [Int.toNat_natCast, Int.toNat_zero, Nat.sub_zero, Nat.zero_add]; first | exact rfl | done) | exact all0 | exact fun h => Bool.noConfusion h | exact fun _ _ _ _ => rfl | omega)
  · intro hpl
    have hok' : rmOk s := by
      unfold rmE at h0
      split at h0
      · cases h0
      · split at h0
        · assumption
        · cases h0
    refine sem_loop tab_ok gamN1_ok mixed (by kernel_rfl) (O := ordRN) (fun x : Nat × (Nat → Cxt) => ⟨[(0, .c (.sl 2 s.m (c2 s.lo s.hi))), (2, intV s.up), (3, intV s.dn), (4, .c (.sl 1 s.m (c1 s.pl))), (14, .lp 0 0), (15, .own 1), (61, .c (.sl 2 s.m (c2 s.lo s.hi))), (62, intV s.m), (63, intV x.1)], [.box [intV (-s.dn), intV ((-s.dn) * 0), .c (.sl 2 (movC s).n (c2 (movC s).p (movC s).q))], .row 41 3 (x.1 + 1) false (cF x.2)]⟩) (fun x => x.1 ≤ s.m ∧ (∀ k, k ≤ x.1 → (x.2 k).n ≤ 64) ∧ (rmS s → rmCh s x.1 x.2)) (fun x => s.m - x.1) ⟨(0, fun _ => nowC s), [?_, ?_], ⟨Nat.zero_le _, fun _ _ => Nat.zero_le _, fun h => now_ch hok' h⟩, ?_⟩ fun y hy => ?_
    rotate_left 2
    · refine Sub.of ?_ ?_ ?_
      repeat' (first | (refine And.intro ?_ ?_) | exact trivial | exact fun _ _ _ => hsc _ _ | (exact congrArg intV (by first | with_reducible rfl | with_reducible assumption)) | exact (rfl : AV.idsLt _ _ = true) | exact (rfl : _ = AV.ren _ (.own _)) | exact (rfl : _ = AV.ren _ (.fn _ _)) | exact (rfl : _ = AV.ren _ (.gh _)) | (exact congrArg intV (by assumption)) | (refine congrArg intV ((wr_id (by omega) (by omega)).trans (by omega))) | exact rfl | (simp only [Int.toNat_natCast, Int.toNat_zero, Nat.sub_zero, Nat.zero_add]; first | exact rfl | done) | exact all0 | exact fun h => Bool.noConfusion h | exact fun _ _ _ _ => rfl | omega)
    obtain ⟨t, F⟩ := y
    obtain ⟨ht, hn, hc⟩ := hy
    dsimp only at ht hn hc ⊢
    have hm24 : s.m ≤ 24 := by
      unfold rmE at h0
      split at h0
      · cases h0
      · omega
    have hmv : (movC s).n ≤ 64 := Nat.le_trans (lineC_n (-s.dn) s.up 0) (by decide)
    have hb3 : e3.bytes = 8 := rfl
    conv => whnf
    repeat' (first
      | (refine NilG.mk fun bn hbn hbx => ?_; conv => whnf)
      | (refine Both.mk ?_ ?_ <;> conv => whnf)
      | exact trivial
      | (refine Br.mk (fun hb => ?_) (fun hb => ?_) <;> (first | (exfalso; revert hb; decide) | ((try simp only [BL] at hb) <;> (try simp only [DL] at hb) <;> (first | (exfalso; omega) | (conv => whnf)))))
      | (refine And.intro ?_ ?_; (focus (first | exact id | exact rfl | exact trivial | (intro hg; first | exact hg | exact rfl | (simp; done) | (simp at hg ⊢; assumption)) | omega | decide | exact is2_c _ _ _ | exact is1_c _ _ | exact isS_c _ _ | exact isB_c _ _ | exact Nat.le_refl _ | assumption | exact mulLe (by decide) (by omega) | exact mulLe2 (by decide) (by omega) (by omega) | (intros; simp only [BL] at *; omega) | (intros; (try simp only [BL] at *); (try simp only [DL] at *); omega) | (intros; simp only [BL] at *; rw [wr_id (by omega) (by omega)]; omega) | (intro h1 h2; exact Bool.and_eq_true_iff.2 ⟨h1, h2⟩) | first | exact ⟨rfl, by omega, by decide⟩ | (rw [hb3]; omega) | (intros; simp_all; done))); conv => whnf)
      | (refine Or.inr (And.intro rfl ?_); first | (refine congrArg intV ?_) | (refine congrArg boolV ?_) | (refine tupII ?_ ?_) | (refine tupIII ?_ ?_ ?_) | (refine tupU ?_ ?_ ?_ ?_ ?_) | exact rfl))
    repeat' (first
      | (refine CallG.mk (Fn.mono (convT (F t) (movC s) (hn t (Nat.le_refl t)) hmv) ?_); rintro obs r ⟨rfl, e1, fa, rfl, ha, hA⟩; ((conv => whnf); repeat' (first | (refine NilG.mk fun bn hbn hbx => ?_; conv => whnf) | (refine Both.mk ?_ ?_ <;> conv => whnf) | exact trivial | (refine Br.mk (fun hb => ?_) (fun hb => ?_) <;> (first | (exfalso; revert hb; decide) | ((try simp only [BL] at hb) <;> (try simp only [DL] at hb) <;> conv => whnf))) | (refine And.intro ?_ ?_; (focus (first | exact id | exact rfl | exact trivial | (intro hg; first | exact hg | exact rfl | (simp; done) | (simp at hg ⊢; assumption)) | omega | decide | exact is2_c _ _ _ | exact is1_c _ _ | exact isS_c _ _ | exact isB_c _ _ | exact Nat.le_refl _ | assumption | exact mulLe (by decide) (by omega) | exact mulLe2 (by decide) (by omega) (by omega) | (intros; simp only [BL] at *; omega) | (intros; (try simp only [BL] at *); (try simp only [DL] at *); omega) | (intros; simp only [BL] at *; rw [wr_id (by omega) (by omega)]; omega) | (intro h1 h2; exact Bool.and_eq_true_iff.2 ⟨h1, h2⟩) | exact ⟨rfl, by omega, by decide⟩ | (intros; simp_all; done))); conv => whnf) | (refine Or.inr (And.intro rfl ?_); first | (refine congrArg intV ?_) | (refine congrArg boolV ?_) | (refine tupII ?_ ?_) | (refine tupIII ?_ ?_ ?_) | (refine tupU ?_ ?_ ?_ ?_ ?_) | exact rfl))))
      | (refine CallG.mk (Fn.mono (restT fa (s.lo t) (s.hi t) ha) ?_); rintro obs r ⟨rfl, e2, fg, rfl, hg, hGr⟩; ((conv => whnf); repeat' (first | (refine NilG.mk fun bn hbn hbx => ?_; conv => whnf) | (refine Both.mk ?_ ?_ <;> conv => whnf) | exact trivial | (refine Br.mk (fun hb => ?_) (fun hb => ?_) <;> (first | (exfalso; revert hb; decide) | ((try simp only [BL] at hb) <;> (try simp only [DL] at hb) <;> conv => whnf))) | (refine And.intro ?_ ?_; (focus (first | exact id | exact rfl | exact trivial | (intro hg; first | exact hg | exact rfl | (simp; done) | (simp at hg ⊢; assumption)) | omega | decide | exact is2_c _ _ _ | exact is1_c _ _ | exact isS_c _ _ | exact isB_c _ _ | exact Nat.le_refl _ | assumption | exact mulLe (by decide) (by omega) | exact mulLe2 (by decide) (by omega) (by omega) | (intros; simp only [BL] at *; omega) | (intros; (try simp only [BL] at *); (try simp only [DL] at *); omega) | (intros; simp only [BL] at *; rw [wr_id (by omega) (by omega)]; omega) | (intro h1 h2; exact Bool.and_eq_true_iff.2 ⟨h1, h2⟩) | exact ⟨rfl, by omega, by decide⟩ | (intros; simp_all; done))); conv => whnf) | (refine Or.inr (And.intro rfl ?_); first | (refine congrArg intV ?_) | (refine congrArg boolV ?_) | (refine tupII ?_ ?_) | (refine tupIII ?_ ?_ ?_) | (refine tupU ?_ ?_ ?_ ?_ ?_) | exact rfl))))
      | (refine CallG.mk (Fn.mono (rmAway (s.pl t) (hpl t (by omega)).1 (hpl t (by omega)).2) ?_); rintro obs r ⟨rfl, rfl⟩; ((conv => whnf); repeat' (first | (refine NilG.mk fun bn hbn hbx => ?_; conv => whnf) | (refine Both.mk ?_ ?_ <;> conv => whnf) | exact trivial | (refine Br.mk (fun hb => ?_) (fun hb => ?_) <;> (first | (exfalso; revert hb; decide) | ((try simp only [BL] at hb) <;> (try simp only [DL] at hb) <;> conv => whnf))) | (refine And.intro ?_ ?_; (focus (first | exact id | exact rfl | exact trivial | (intro hg; first | exact hg | exact rfl | (simp; done) | (simp at hg ⊢; assumption)) | omega | decide | exact is2_c _ _ _ | exact is1_c _ _ | exact isS_c _ _ | exact isB_c _ _ | exact Nat.le_refl _ | assumption | exact mulLe (by decide) (by omega) | exact mulLe2 (by decide) (by omega) (by omega) | (intros; simp only [BL] at *; omega) | (intros; (try simp only [BL] at *); (try simp only [DL] at *); omega) | (intros; simp only [BL] at *; rw [wr_id (by omega) (by omega)]; omega) | (intro h1 h2; exact Bool.and_eq_true_iff.2 ⟨h1, h2⟩) | exact ⟨rfl, by omega, by decide⟩ | (intros; simp_all; done))); conv => whnf) | (refine Or.inr (And.intro rfl ?_); first | (refine congrArg intV ?_) | (refine congrArg boolV ?_) | (refine tupII ?_ ?_) | (refine tupIII ?_ ?_ ?_) | (refine tupU ?_ ?_ ?_ ?_ ?_) | exact rfl))))
      | (refine CallG.mk (Fn.mono (addT fg (awC (s.pl t)) hg (by show (if 0 < s.pl t ∧ s.pl t < 100000 then 2 else 1) ≤ 64; split <;> omega)) ?_); rintro obs r ⟨rfl, e3, fh, rfl, hh, hH⟩; ((conv => whnf); repeat' (first | (refine NilG.mk fun bn hbn hbx => ?_; conv => whnf) | (refine Both.mk ?_ ?_ <;> conv => whnf) | exact trivial | (refine Br.mk (fun hb => ?_) (fun hb => ?_) <;> (first | (exfalso; revert hb; decide) | ((try simp only [BL] at hb) <;> (try simp only [DL] at hb) <;> conv => whnf))) | (refine And.intro ?_ ?_; (focus (first | exact id | exact rfl | exact trivial | (intro hg; first | exact hg | exact rfl | (simp; done) | (simp at hg ⊢; assumption)) | omega | decide | exact is2_c _ _ _ | exact is1_c _ _ | exact isS_c _ _ | exact isB_c _ _ | exact Nat.le_refl _ | assumption | exact mulLe (by decide) (by omega) | exact mulLe2 (by decide) (by omega) (by omega) | (intros; simp only [BL] at *; omega) | (intros; (try simp only [BL] at *); (try simp only [DL] at *); omega) | (intros; simp only [BL] at *; rw [wr_id (by omega) (by omega)]; omega) | (intro h1 h2; exact Bool.and_eq_true_iff.2 ⟨h1, h2⟩) | exact ⟨rfl, by omega, by decide⟩ | (intros; simp_all; done))); conv => whnf) | (refine Or.inr (And.intro rfl ?_); first | (refine congrArg intV ?_) | (refine congrArg boolV ?_) | (refine tupII ?_ ?_) | (refine tupIII ?_ ?_ ?_) | (refine tupU ?_ ?_ ?_ ?_ ?_) | exact rfl)))))
    iterate 7
      · refine .inr ⟨_, ⟨rfl, 0, fun _ => 0, 0, _, rfl, .inr (.inr (.inr ⟨h0, rfl, hpl, fun hS => .inl ?_⟩))⟩, Le1.tup (Le.cons Le1.nil (Le.cons (Le1.refl _) (Le.cons (Le1.refl _) Le.nil)))⟩
        have hz := (rm_goE hok' hm24 (by omega) (hc hS) hA hGr).1 hb
        exact ⟨⟨t, F, hz.2⟩, rfl, rfl, rfl⟩
      iterate 2
        · have hn' : ∀ k, k ≤ t + 1 → (pushC F (t + 1) fh k).n ≤ 64 := fun k hk => by
            unfold pushC
            split
            · exact hn k (by omega)
            · exact hh
          refine ⟨(t + 1, pushC F (t + 1) fh), [?_, ?_], ⟨by show t + 1 ≤ s.m; omega, hn', fun hS => rm_goC hok' hS hpl hm24 (by omega) (hc hS) hA hGr hH hb⟩, by show s.m - (t + 1) < s.m - t; omega, ?_⟩
          rotate_left 2
          refine Sub.of ?_ ?_ ?_
          repeat' (first | (refine And.intro ?_ ?_) | exact trivial | exact fun _ _ _ => hsc _ _ | (exact congrArg intV (by first | with_reducible rfl | with_reducible assumption)) | exact (rfl : AV.idsLt _ _ = true) | exact (rfl : _ = AV.ren _ (.own _)) | exact (rfl : _ = AV.ren _ (.fn _ _)) | exact (rfl : _ = AV.ren _ (.gh _)) | (exact congrArg intV (by assumption)) | (refine congrArg intV ((wr_id (by omega) (by omega)).trans (by omega))) | exact rfl | (simp only [Int.toNat_natCast, Int.toNat_zero, Nat.sub_zero, Nat.zero_add]; first | exact rfl | done) | exact all0 | exact fun h => Bool.noConfusion h | exact fun _ _ _ _ => rfl | omega)
          intro a ha b hb9
          have hb9 : b < 3 := hb9
          by_cases e : a < t + 1
          · refine (if_pos e).trans ?_
            show cF F a b = [iL (pushC F (t + 1) fh a).lo, iL (pushC F (t + 1) fh a).v, .sl 2 (pushC F (t + 1) fh a).n (c2 (pushC F (t + 1) fh a).p (pushC F (t + 1) fh a).q)].getD b .un
            rw [show pushC F (t + 1) fh a = F a from if_pos e]
            rfl
          · have ea : a = t + 1 := by omega
            refine (if_neg e).trans ?_
            show _ = [iL (pushC F (t + 1) fh a).lo, iL (pushC F (t + 1) fh a).v, .sl 2 (pushC F (t + 1) fh a).n (c2 (pushC F (t + 1) fh a).p (pushC F (t + 1) fh a).q)].getD b .un
            rw [show pushC F (t + 1) fh a = fh from if_neg e, ea, Nat.sub_self]
            match b, hb9 with
            | 0, _ => rfl
            | 1, _ => rfl
            | 2, _ => rfl
    obtain rfl : t = s.m := by omega
    have e23 : IntKind.i64.wrap ((s.m : Int) - 1) = (s.m : Int) - 1 := wr_id (by omega) (by omega)
    rw [Int.toNat_natCast]
    refine sem_loop tab_ok gamN1_ok mixed (by kernel_rfl) (O := ordRN) (fun x : Nat × (Nat → Int) × Int => ⟨[(0, .c (.sl 2 s.m (c2 s.lo s.hi))), (2, intV s.up), (3, intV s.dn), (15, .own 0), (21, .own 1), (22, intV x.2.2), (23, intV ((x.1 : Int) - 1))], [.row 41 3 (s.m + 1) false (cF F), .row 3 1 s.m false (c1 x.2.1)]⟩) (fun x => x.1 ≤ s.m ∧ (rmS s → rmBk s F x.1 x.2.1 x.2.2)) (fun x => x.1) ⟨(s.m, fun _ => 0, 0), [?_, ?_], ⟨Nat.le_refl _, fun _ => rmBk_zero s F _⟩, ?_⟩ fun y hy => ?_
    rotate_left 2
    · refine Sub.of ?_ ?_ ?_
      repeat' (first | (refine And.intro ?_ ?_) | exact trivial | exact fun _ _ _ => hsc _ _ | (exact congrArg intV (by first | with_reducible rfl | with_reducible assumption)) | exact (rfl : AV.idsLt _ _ = true) | exact (rfl : _ = AV.ren _ (.own _)) | exact (rfl : _ = AV.ren _ (.fn _ _)) | exact (rfl : _ = AV.ren _ (.gh _)) | (exact congrArg intV (by assumption)) | (refine congrArg intV ((wr_id (by omega) (by omega)).trans (by omega))) | exact rfl | (simp only [Int.toNat_natCast, Int.toNat_zero, Nat.sub_zero, Nat.zero_add]; first | exact rfl | done) | exact all0 | exact fun h => Bool.noConfusion h | exact fun _ _ _ _ => rfl | omega)
      · intro a ha b hb9
        have hb9 : b < 1 := hb9
        match b, hb9 with
        | 0, _ => rfl
    obtain ⟨t, sc, d⟩ := y
    obtain ⟨ht, hbk⟩ := hy
    dsimp only at ht hbk ⊢
    by_cases ht0 : t = 0
    · subst ht0
      conv => whnf
      repeat' (first
        | (refine NilG.mk fun bn hbn hbx => ?_; conv => whnf)
        | (refine Both.mk ?_ ?_ <;> conv => whnf)
        | exact trivial
        | (refine Br.mk (fun hb => ?_) (fun hb => ?_) <;> (first | (exfalso; revert hb; decide) | ((try simp only [BL] at hb) <;> (try simp only [DL] at hb) <;> (first | (exfalso; omega) | (conv => whnf)))))
        | (refine And.intro ?_ ?_; (focus (first | exact id | exact rfl | exact trivial | (intro hg; first | exact hg | exact rfl | (simp; done) | (simp at hg ⊢; assumption)) | omega | decide | exact is2_c _ _ _ | exact is1_c _ _ | exact isS_c _ _ | exact isB_c _ _ | exact Nat.le_refl _ | assumption | exact mulLe (by decide) (by omega) | exact mulLe2 (by decide) (by omega) (by omega) | (intros; simp only [BL] at *; omega) | (intros; (try simp only [BL] at *); (try simp only [DL] at *); omega) | (intros; simp only [BL] at *; rw [wr_id (by omega) (by omega)]; omega) | (intro h1 h2; exact Bool.and_eq_true_iff.2 ⟨h1, h2⟩) | (intros; simp_all; done))); conv => whnf)
        | (refine Or.inr (And.intro rfl ?_); first | (refine congrArg intV ?_) | (refine congrArg boolV ?_) | (refine tupII ?_ ?_) | (refine tupIII ?_ ?_ ?_) | (refine tupU ?_ ?_ ?_ ?_ ?_) | exact rfl))
      refine .inr ⟨_, ⟨rfl, s.m, sc, d, 0, rfl, .inr (.inr (.inr ⟨h0, rfl, hpl, fun hS => .inr ⟨F, hc hS, rfl, rfl, rmBk_end (hc hS) (hbk hS)⟩⟩))⟩, Le1.refl _⟩
    obtain ⟨j, rfl⟩ : ∃ j, t = j + 1 := ⟨t - 1, by omega⟩
    have ej : ((j + 1 : Nat) : Int) - 1 = (j : Int) := by omega
    rw [ej]
    have ei : IntKind.i64.wrap ((j : Int) + 1) = ((j + 1 : Nat) : Int) := (wr_id (by omega) (by omega)).trans (by omega)
    have ei2 : (IntKind.i64.wrap ((j : Int) + 1)).toNat = j + 1 := by rw [ei]; omega
    have e9 : IntKind.i64.wrap ((j : Int) - 1) = (j : Int) - 1 := wr_id (by omega) (by omega)
    conv => whnf
    repeat' (first
      | (refine NilG.mk fun bn hbn hbx => ?_; conv => whnf)
      | (refine Both.mk ?_ ?_ <;> conv => whnf)
      | exact trivial
      | (refine Br.mk (fun hb => ?_) (fun hb => ?_) <;> (first | (exfalso; revert hb; decide) | ((try simp only [BL] at hb) <;> (try simp only [DL] at hb) <;> (first | (exfalso; omega) | (conv => whnf)))))
      | (refine And.intro ?_ ?_; (focus (first | exact id | exact rfl | exact trivial | (intro hg; first | exact hg | exact rfl | (simp; done) | (simp at hg ⊢; assumption)) | omega | decide | exact is2_c _ _ _ | exact is1_c _ _ | exact isS_c _ _ | exact isB_c _ _ | exact Nat.le_refl _ | assumption | exact mulLe (by decide) (by omega) | exact mulLe2 (by decide) (by omega) (by omega) | (intros; simp only [BL] at *; omega) | (intros; (try simp only [BL] at *); (try simp only [DL] at *); omega) | (intros; simp only [BL] at *; rw [wr_id (by omega) (by omega)]; omega) | (intro h1 h2; exact Bool.and_eq_true_iff.2 ⟨h1, h2⟩) | first | exact ⟨rfl, by rw [ei]; omega, by decide⟩ | exact ⟨rfl, by omega, by decide⟩ | (intros; simp_all; done))); conv => whnf)
      | (refine Or.inr (And.intro rfl ?_); first | (refine congrArg intV ?_) | (refine congrArg boolV ?_) | (refine tupII ?_ ?_) | (refine tupIII ?_ ?_ ?_) | (refine tupU ?_ ?_ ?_ ?_ ?_) | exact rfl))
    · refine CallG.mk (Fn.mono ((restT (F (j + 1)) (IntKind.i64.wrap (sc (j + 1) - s.up)) (IntKind.i64.wrap (sc (j + 1) + s.dn)) (hn (j + 1) ht)).le (Le.cons (Le1.of_eq (congrArg (fun k => Cxt.av (F k)) ei2)) (Le.cons (Le1.of_eq (congrArg (fun k => intV (IntKind.i64.wrap (sc k - s.up))) ei2)) (Le.cons (Le1.of_eq (congrArg (fun k => intV (IntKind.i64.wrap (sc k + s.dn))) ei2)) Le.nil)))) ?_)
      rintro obs r ⟨rfl, e, g, rfl, hgn, hg⟩
      conv => whnf
      repeat' (first
        | (refine NilG.mk fun bn hbn hbx => ?_; conv => whnf)
        | (refine Both.mk ?_ ?_ <;> conv => whnf)
        | exact trivial
        | (refine Br.mk (fun hb => ?_) (fun hb => ?_) <;> (first | (exfalso; revert hb; decide) | ((try simp only [BL] at hb) <;> (try simp only [DL] at hb) <;> (first | (exfalso; omega) | (conv => whnf)))))
        | (refine And.intro ?_ ?_; (focus (first | exact id | exact rfl | exact trivial | (intro hg; first | exact hg | exact rfl | (simp; done) | (simp at hg ⊢; assumption)) | omega | decide | exact is2_c _ _ _ | exact is1_c _ _ | exact isS_c _ _ | exact isB_c _ _ | exact Nat.le_refl _ | assumption | exact mulLe (by decide) (by omega) | exact mulLe2 (by decide) (by omega) (by omega) | (intros; simp only [BL] at *; omega) | (intros; (try simp only [BL] at *); (try simp only [DL] at *); omega) | (intros; simp only [BL] at *; rw [wr_id (by omega) (by omega)]; omega) | (intro h1 h2; exact Bool.and_eq_true_iff.2 ⟨h1, h2⟩) | first | exact ⟨rfl, by omega, by decide⟩ | (intros; simp_all; done))); conv => whnf)
        | (refine Or.inr (And.intro rfl ?_); first | (refine congrArg intV ?_) | (refine congrArg boolV ?_) | (refine tupII ?_ ?_) | (refine tupIII ?_ ?_ ?_) | (refine tupU ?_ ?_ ?_ ?_ ?_) | exact rfl))
      refine CallG.mk (Fn.mono (leastT g hgn) ?_)
      rintro obs r ⟨rfl, rfl⟩
      have hjm : j + 1 < s.m := by omega
      conv => whnf
      repeat' (first
        | (refine NilG.mk fun bn hbn hbx => ?_; conv => whnf)
        | (refine Both.mk ?_ ?_ <;> conv => whnf)
        | exact trivial
        | (refine Br.mk (fun hb => ?_) (fun hb => ?_) <;> (first | (exfalso; revert hb; decide) | ((try simp only [BL] at hb) <;> (try simp only [DL] at hb) <;> (first | (exfalso; omega) | (conv => whnf)))))
        | (refine And.intro ?_ ?_; (focus (first | exact id | exact rfl | exact trivial | (intro hg; first | exact hg | exact rfl | (simp; done) | (simp at hg ⊢; assumption)) | omega | decide | exact is2_c _ _ _ | exact is1_c _ _ | exact isS_c _ _ | exact isB_c _ _ | exact Nat.le_refl _ | assumption | exact mulLe (by decide) (by omega) | exact mulLe2 (by decide) (by omega) (by omega) | (intros; simp only [BL] at *; omega) | (intros; (try simp only [BL] at *); (try simp only [DL] at *); omega) | (intros; simp only [BL] at *; rw [wr_id (by omega) (by omega)]; omega) | (intro h1 h2; exact Bool.and_eq_true_iff.2 ⟨h1, h2⟩) | first | exact ⟨rfl, by omega, by decide⟩ | (intros; simp_all; done))); conv => whnf)
        | (refine Or.inr (And.intro rfl ?_); first | (refine congrArg intV ?_) | (refine congrArg boolV ?_) | (refine tupII ?_ ?_) | (refine tupIII ?_ ?_ ?_) | (refine tupU ?_ ?_ ?_ ?_ ?_) | exact rfl))
      have hbn : rmS s → rmBk s F j (fun k => if k = j then lsX g else sc k) d := fun hS => by
        have hch := hc hS
        have hB1 := hch.2.2 (j + 1) (by omega)
        have hB2 := hch.2.2 (j + 1 + 1) hjm
        have hki := rmBk_in (hbk hS) hjm
        have hk1 := hki.1
        have hk2 := hki.2
        have hlo := hB2.2.1
        have hhi := hB2.2.2.1
        have hso := rprev_some (hch.2.1 (j + 1) hjm) hki
        have eL : IntKind.i64.wrap (sc (j + 1) - s.up) = sc (j + 1) - s.up := wr_id (by omega) (by omega)
        have eH : IntKind.i64.wrap (sc (j + 1) + s.dn) = sc (j + 1) + s.dn := wr_id (by omega) (by omega)
        rw [eL, eH] at hg
        rcases hg hB1.1 with ⟨g1, -⟩ | ⟨-, -, g3⟩
        · exfalso; omega
        · exact rmBk_next hjm (hbk hS) g3 (by show (if j = j then lsX g else sc j) = _; rw [if_pos rfl]; exact lsX_ok g3.1) fun u hu => if_neg (by omega)
      refine ⟨(j, fun k => if k = j then lsX g else sc k, d), [?_, ?_], ⟨by show j ≤ s.m; omega, hbn⟩, by show j < j + 1; omega, ?_⟩
      rotate_left 2
      refine Sub.of ?_ ?_ ?_
      repeat' (first | (refine And.intro ?_ ?_) | exact trivial | exact fun _ _ _ => hsc _ _ | (exact congrArg intV (by first | with_reducible rfl | with_reducible assumption)) | exact (rfl : AV.idsLt _ _ = true) | exact (rfl : _ = AV.ren _ (.own _)) | exact (rfl : _ = AV.ren _ (.fn _ _)) | exact (rfl : _ = AV.ren _ (.gh _)) | (exact congrArg intV (by assumption)) | (refine congrArg intV ((wr_id (by omega) (by omega)).trans (by omega))) | exact rfl | (simp only [Int.toNat_natCast, Int.toNat_zero, Nat.sub_zero, Nat.zero_add]; first | exact rfl | done) | exact all0 | exact fun h => Bool.noConfusion h | exact fun _ _ _ _ => rfl | omega)
      intro a ha b hb9
      have hb9 : b < 1 := hb9
      match b, hb9 with
      | 0, _ =>
        show _ = iL (if a = j then lsX g else sc a)
        by_cases e : a = j
        · exact (if_pos (by omega)).trans ((if_pos ⟨Nat.zero_le _, Nat.zero_lt_one⟩).trans (congrArg iL (if_pos e).symm))
        · exact (if_neg (by omega)).trans (congrArg iL (if_neg e).symm)
    · refine CallG.mk (Fn.mono ((leastT (F (j + 1)) (hn (j + 1) ht)).le (Le.cons (Le1.of_eq (congrArg (fun k => Cxt.av (F k)) ei2)) Le.nil)) ?_)
      rintro obs r ⟨rfl, rfl⟩
      have hjm : j + 1 = s.m := by omega
      conv => whnf
      repeat' (first
        | (refine NilG.mk fun bn hbn hbx => ?_; conv => whnf)
        | (refine Both.mk ?_ ?_ <;> conv => whnf)
        | exact trivial
        | (refine Br.mk (fun hb => ?_) (fun hb => ?_) <;> (first | (exfalso; revert hb; decide) | ((try simp only [BL] at hb) <;> (try simp only [DL] at hb) <;> (first | (exfalso; omega) | (conv => whnf)))))
        | (refine And.intro ?_ ?_; (focus (first | exact id | exact rfl | exact trivial | (intro hg; first | exact hg | exact rfl | (simp; done) | (simp at hg ⊢; assumption)) | omega | decide | exact is2_c _ _ _ | exact is1_c _ _ | exact isS_c _ _ | exact isB_c _ _ | exact Nat.le_refl _ | assumption | exact mulLe (by decide) (by omega) | exact mulLe2 (by decide) (by omega) (by omega) | (intros; simp only [BL] at *; omega) | (intros; (try simp only [BL] at *); (try simp only [DL] at *); omega) | (intros; simp only [BL] at *; rw [wr_id (by omega) (by omega)]; omega) | (intro h1 h2; exact Bool.and_eq_true_iff.2 ⟨h1, h2⟩) | first | exact ⟨rfl, by omega, by decide⟩ | (intros; simp_all; done))); conv => whnf)
        | (refine Or.inr (And.intro rfl ?_); first | (refine congrArg intV ?_) | (refine congrArg boolV ?_) | (refine tupII ?_ ?_) | (refine tupIII ?_ ?_ ?_) | (refine tupU ?_ ?_ ?_ ?_ ?_) | exact rfl))
      have hbn : rmS s → rmBk s F j (fun k => if k = j then lsX (F (j + 1)) else sc k) (lsV (F (j + 1))) := fun hS => by
        have hch := hc hS
        have hB := (hch.2.2 s.m (Nat.le_refl _)).1
        rw [hjm, lsV_ok hB]
        refine rmBk_first hch hjm.symm ?_
        show (if j = j then lsX (F s.m) else sc j) = _
        rw [if_pos rfl]
        exact lsX_ok hB
      refine ⟨(j, fun k => if k = j then lsX (F (j + 1)) else sc k, lsV (F (j + 1))), [?_, ?_], ⟨by show j ≤ s.m; omega, hbn⟩, by show j < j + 1; omega, ?_⟩
      rotate_left 2
      refine Sub.of ?_ ?_ ?_
      repeat' (first | (refine And.intro ?_ ?_) | exact trivial | exact fun _ _ _ => hsc _ _ | (exact congrArg intV (by first | with_reducible rfl | with_reducible assumption)) | exact (rfl : AV.idsLt _ _ = true) | exact (rfl : _ = AV.ren _ (.own _)) | exact (rfl : _ = AV.ren _ (.fn _ _)) | exact (rfl : _ = AV.ren _ (.gh _)) | (exact congrArg intV (by assumption)) | (refine congrArg intV ((wr_id (by omega) (by omega)).trans (by omega))) | exact rfl | (simp only [Int.toNat_natCast, Int.toNat_zero, Nat.sub_zero, Nat.zero_add]; first | exact rfl | done) | exact all0 | exact fun h => Bool.noConfusion h | exact fun _ _ _ _ => rfl | omega)
      intro a ha b hb9
      have hb9 : b < 1 := hb9
      match b, hb9 with
      | 0, _ =>
        show _ = iL (if a = j then lsX (F (j + 1)) else sc a)
        by_cases e : a = j
        · exact (if_pos (by omega)).trans ((if_pos ⟨Nat.zero_le _, Nat.zero_lt_one⟩).trans (congrArg iL (if_pos e).symm))
        · exact (if_neg (by omega)).trans (congrArg iL (if_neg e).symm)
theorem rmNear (s : Ram) (mp : Nat) (hm : s.m ≤ maxLen) (hp : mp ≤ maxLen) : Fn Try.prog 28 [.c (.sl 2 s.m (c2 s.lo s.hi)), intV s.now, intV s.up, intV s.dn, .c (.sl 1 mp (c1 s.pl))] (nearK s mp) :=
  (rmNear0 s mp hm hp).res fun obs r ⟨r', h1, h2⟩ => ⟨r', h1, h2⟩
end Go.Proofs.Ytkkkldhilofgmaa
