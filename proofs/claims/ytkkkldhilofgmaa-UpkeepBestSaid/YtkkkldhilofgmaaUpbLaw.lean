/-
  UpkeepBest holds: upkeep.Best returns the first one of the cheapest plans, whatever the input.
-/
import Derived.Test.YtkkkldhilofgmaaUpbB
namespace Go.Proofs.Ytkkkldhilofgmaa
open Go.RowKit Go.ChangeShapes Go.WideShapes

theorem sameI (n m : Nat) (x y : Nat → Int) (h : n ≤ 1000000 ∧ m = n ∧ ∀ i, i < n → x i = y i) : Fn1 Try.prog 15 [.c (.sl 1 n (c1 x)), .c (.sl 1 m (c1 y))] (boolV true) := by
  refine fn_of_wpx (O := lex) tab_ok gamU_ok mixed Try.func15 (by kernel_rfl) rfl rfl rfl (by simp [Try.ntmps15]) (by kernel_rfl) ?_
  obtain ⟨hn, rfl, h⟩ := h
  conv => whnf
  repeat' (first
    | (refine NilG.mk fun bn hbn hbx => ?_; conv => whnf)
    | (refine Both.mk ?_ ?_ <;> conv => whnf)
    | exact trivial
    | (refine Br.mk (fun hb => ?_) (fun hb => ?_) <;> (first | (exfalso; revert hb; decide) | ((try simp only [BL] at hb) <;> (try simp only [DL] at hb) <;> conv => whnf)))
    | (refine And.intro ?_ ?_; (focus (first | exact id | exact rfl | exact trivial | (intro hg; first | exact hg | exact rfl | (simp; done) | (simp at hg ⊢; assumption)) | omega | decide | exact is2_c _ _ _ | exact is1_c _ _ | exact isS_c _ _ | exact isB_c _ _ | exact Nat.le_refl _ | assumption | exact mulLe (by decide) (by omega) | exact mulLe2 (by decide) (by omega) (by omega) | (intros; simp only [BL] at *; omega) | (intros; (try simp only [BL] at *); (try simp only [DL] at *); omega) | (intros; simp only [BL] at *; rw [wr_id (by omega) (by omega)]; omega) | (intro h1 h2; exact Bool.and_eq_true_iff.2 ⟨h1, h2⟩) | (intros; simp_all; done))); conv => whnf)
    | (refine Or.inr (And.intro rfl ?_); first | (refine congrArg intV ?_) | (refine congrArg boolV ?_) | (refine tupII ?_ ?_) | (refine tupIII ?_ ?_ ?_) | (refine tupU ?_ ?_ ?_ ?_ ?_) | exact rfl))
  · exact absurd trivial hb
  refine sem_loop tab_ok gamU_ok mixed (by kernel_rfl) (O := lex) (fun i : Nat => ⟨[(0, .c (.sl 1 m (c1 x))), (1, .c (.sl 1 m (c1 y))), (12, intV m), (13, intV i)], []⟩) (fun i => i ≤ m) (fun i => m - i) ⟨0, [], Nat.zero_le _, ?_⟩ fun i hi => ?_
  · refine Sub.of ?_ ?_ ?_
    repeat' (first | (refine And.intro ?_ ?_) | exact trivial | exact fun _ _ _ => hsc _ _ | (exact congrArg intV (by first | with_reducible rfl | with_reducible assumption)) | exact (rfl : AV.idsLt _ _ = true) | exact (rfl : _ = AV.ren _ (.own _)) | exact (rfl : _ = AV.ren _ (.fn _ _)) | exact (rfl : _ = AV.ren _ (.gh _)) | (exact congrArg intV (by assumption)) | (refine congrArg intV ((wr_id (by omega) (by omega)).trans (by omega))) | exact rfl | (simp only [Int.toNat_natCast, Int.toNat_zero, Nat.sub_zero, Nat.zero_add]; first | exact rfl | done) | exact all0 | exact fun h => Bool.noConfusion h | exact fun _ _ _ _ => rfl | omega)
  conv => whnf
  repeat' (first
    | (refine NilG.mk fun bn hbn hbx => ?_; conv => whnf)
    | (refine Both.mk ?_ ?_ <;> conv => whnf)
    | exact trivial
    | (refine Br.mk (fun hb => ?_) (fun hb => ?_) <;> (first | (exfalso; revert hb; decide) | ((try simp only [BL] at hb) <;> (try simp only [DL] at hb) <;> conv => whnf)))
    | (refine And.intro ?_ ?_; (focus (first | exact id | exact rfl | exact trivial | (intro hg; first | exact hg | exact rfl | (simp; done) | (simp at hg ⊢; assumption)) | omega | decide | exact is2_c _ _ _ | exact is1_c _ _ | exact isS_c _ _ | exact isB_c _ _ | exact Nat.le_refl _ | assumption | exact mulLe (by decide) (by omega) | exact mulLe2 (by decide) (by omega) (by omega) | (intros; simp only [BL] at *; omega) | (intros; (try simp only [BL] at *); (try simp only [DL] at *); omega) | (intros; simp only [BL] at *; rw [wr_id (by omega) (by omega)]; omega) | (intro h1 h2; exact Bool.and_eq_true_iff.2 ⟨h1, h2⟩) | (intros; simp_all; done))); conv => whnf)
    | (refine Or.inr (And.intro rfl ?_); first | (refine congrArg intV ?_) | (refine congrArg boolV ?_) | (refine tupII ?_ ?_) | (refine tupIII ?_ ?_ ?_) | (refine tupU ?_ ?_ ?_ ?_ ?_) | exact rfl))
  · exact absurd (h i (by omega)) hb
  · refine ⟨i + 1, [], by omega, by omega, ?_⟩
    refine Sub.of ?_ ?_ ?_
    repeat' (first | (refine And.intro ?_ ?_) | exact trivial | exact fun _ _ _ => hsc _ _ | (exact congrArg intV (by first | with_reducible rfl | with_reducible assumption)) | exact (rfl : AV.idsLt _ _ = true) | exact (rfl : _ = AV.ren _ (.own _)) | exact (rfl : _ = AV.ren _ (.fn _ _)) | exact (rfl : _ = AV.ren _ (.gh _)) | (exact congrArg intV (by assumption)) | (refine congrArg intV ((wr_id (by omega) (by omega)).trans (by omega))) | exact rfl | (simp only [Int.toNat_natCast, Int.toNat_zero, Nat.sub_zero, Nat.zero_add]; first | exact rfl | done) | exact all0 | exact fun h => Bool.noConfusion h | exact fun _ _ _ _ => rfl | omega)
  · rfl
theorem eqI (n m : Nat) (x y : Nat → Int) (h : n ≤ 1000000 ∧ m = n ∧ ∀ i, i < n → x i = y i) : Fn1 Try.prog 10 [.c (.sl 1 n (c1 x)), .c (.sl 1 m (c1 y))] (boolV true) := by
  refine fn_of_wpx (O := lex) tab_ok gamU_ok mixed Try.func10 (by kernel_rfl) rfl rfl rfl (by simp [Try.ntmps10]) (by kernel_rfl) ?_
  obtain ⟨hn, rfl, h⟩ := h
  conv => whnf
  repeat' (first
    | (refine NilG.mk fun bn hbn hbx => ?_; conv => whnf)
    | (refine Both.mk ?_ ?_ <;> conv => whnf)
    | exact trivial
    | (refine Br.mk (fun hb => ?_) (fun hb => ?_) <;> (first | (exfalso; revert hb; decide) | ((try simp only [BL] at hb) <;> (try simp only [DL] at hb) <;> conv => whnf)))
    | (refine And.intro ?_ ?_; (focus (first | exact id | exact rfl | exact trivial | (intro hg; first | exact hg | exact rfl | (simp; done) | (simp at hg ⊢; assumption)) | omega | decide | exact is2_c _ _ _ | exact is1_c _ _ | exact isS_c _ _ | exact isB_c _ _ | exact Nat.le_refl _ | assumption | exact mulLe (by decide) (by omega) | exact mulLe2 (by decide) (by omega) (by omega) | (intros; simp only [BL] at *; omega) | (intros; (try simp only [BL] at *); (try simp only [DL] at *); omega) | (intros; simp only [BL] at *; rw [wr_id (by omega) (by omega)]; omega) | (intro h1 h2; exact Bool.and_eq_true_iff.2 ⟨h1, h2⟩) | (intros; simp_all; done))); conv => whnf)
    | (refine Or.inr (And.intro rfl ?_); first | (refine congrArg intV ?_) | (refine congrArg boolV ?_) | (refine tupII ?_ ?_) | (refine tupIII ?_ ?_ ?_) | (refine tupU ?_ ?_ ?_ ?_ ?_) | exact rfl))
  · exact absurd trivial hb
  refine sem_loop tab_ok gamU_ok mixed (by kernel_rfl) (O := lex) (fun i : Nat => ⟨[(0, .c (.sl 1 m (c1 x))), (1, .c (.sl 1 m (c1 y))), (12, intV m), (13, intV i)], []⟩) (fun i => i ≤ m) (fun i => m - i) ⟨0, [], Nat.zero_le _, ?_⟩ fun i hi => ?_
  · refine Sub.of ?_ ?_ ?_
    repeat' (first | (refine And.intro ?_ ?_) | exact trivial | exact fun _ _ _ => hsc _ _ | (exact congrArg intV (by first | with_reducible rfl | with_reducible assumption)) | exact (rfl : AV.idsLt _ _ = true) | exact (rfl : _ = AV.ren _ (.own _)) | exact (rfl : _ = AV.ren _ (.fn _ _)) | exact (rfl : _ = AV.ren _ (.gh _)) | (exact congrArg intV (by assumption)) | (refine congrArg intV ((wr_id (by omega) (by omega)).trans (by omega))) | exact rfl | (simp only [Int.toNat_natCast, Int.toNat_zero, Nat.sub_zero, Nat.zero_add]; first | exact rfl | done) | exact all0 | exact fun h => Bool.noConfusion h | exact fun _ _ _ _ => rfl | omega)
  conv => whnf
  repeat' (first
    | (refine NilG.mk fun bn hbn hbx => ?_; conv => whnf)
    | (refine Both.mk ?_ ?_ <;> conv => whnf)
    | exact trivial
    | (refine Br.mk (fun hb => ?_) (fun hb => ?_) <;> (first | (exfalso; revert hb; decide) | ((try simp only [BL] at hb) <;> (try simp only [DL] at hb) <;> conv => whnf)))
    | (refine And.intro ?_ ?_; (focus (first | exact id | exact rfl | exact trivial | (intro hg; first | exact hg | exact rfl | (simp; done) | (simp at hg ⊢; assumption)) | omega | decide | exact is2_c _ _ _ | exact is1_c _ _ | exact isS_c _ _ | exact isB_c _ _ | exact Nat.le_refl _ | assumption | exact mulLe (by decide) (by omega) | exact mulLe2 (by decide) (by omega) (by omega) | (intros; simp only [BL] at *; omega) | (intros; (try simp only [BL] at *); (try simp only [DL] at *); omega) | (intros; simp only [BL] at *; rw [wr_id (by omega) (by omega)]; omega) | (intro h1 h2; exact Bool.and_eq_true_iff.2 ⟨h1, h2⟩) | (intros; simp_all; done))); conv => whnf)
    | (refine Or.inr (And.intro rfl ?_); first | (refine congrArg intV ?_) | (refine congrArg boolV ?_) | (refine tupII ?_ ?_) | (refine tupIII ?_ ?_ ?_) | (refine tupU ?_ ?_ ?_ ?_ ?_) | exact rfl))
  · exact absurd (h i (by omega)) hb
  · refine ⟨i + 1, [], by omega, by omega, ?_⟩
    refine Sub.of ?_ ?_ ?_
    repeat' (first | (refine And.intro ?_ ?_) | exact trivial | exact fun _ _ _ => hsc _ _ | (exact congrArg intV (by first | with_reducible rfl | with_reducible assumption)) | exact (rfl : AV.idsLt _ _ = true) | exact (rfl : _ = AV.ren _ (.own _)) | exact (rfl : _ = AV.ren _ (.fn _ _)) | exact (rfl : _ = AV.ren _ (.gh _)) | (exact congrArg intV (by assumption)) | (refine congrArg intV ((wr_id (by omega) (by omega)).trans (by omega))) | exact rfl | (simp only [Int.toNat_natCast, Int.toNat_zero, Nat.sub_zero, Nat.zero_add]; first | exact rfl | done) | exact all0 | exact fun h => Bool.noConfusion h | exact fun _ _ _ _ => rfl | omega)
  · rfl
/-- a slot's value looked at otherwise -/
theorem LoopG.view {P : Program} {N : Nat} {c : Code} {S : AS} {K : Ex → AS → Prop} (t : Nat) {a a' : AV} (ht : fget S.fr t = a) (h : Le1 a a') (k : LoopG P N c ⟨(t, a') :: S.fr, S.obs⟩ K) : LoopG P N c S K :=
  ⟨fun w0 I0 σ I b w hd hN hr => k.sem w0 I0 σ I b w hd hN ⟨hr.same0, hr.st, fun t' => by
    have hf := hr.fr t'
    simp only [fget]
    by_cases hh : t = t'
    · subst hh
      rw [if_pos rfl]
      rw [ht] at hf
      exact h _ _ _ _ hf
    · rw [if_neg hh]; exact hf, hr.i1, hr.i2, hr.sz⟩⟩
abbrev rwI (n : Nat) (x : Nat → Int) : OB := .row 3 1 n false (c1 x)
theorem upCloneM (n : Nat) (x : Nat → Int) (hn : n ≤ 1000) : FnM Try.prog 14 [rwI n x] [.own 0] (fun obs r => (obs = [rwI n x, rwI n x] ∧ r = .own 1) ∨ (n = 0 ∧ obs = [rwI n x] ∧ r = .c (.v (.slice none 0 0)))) := by
  refine fnM_of_wpx (O := lex) tab_ok gamN1_ok mixed Try.func14 (by kernel_rfl) rfl rfl rfl (by simp [Try.ntmps14]) (by kernel_rfl) ?_
  conv => whnf
  repeat' (first
    | (refine NilG.mk fun bn hbn hbx => ?_; conv => whnf)
    | (refine Both.mk ?_ ?_ <;> conv => whnf)
    | exact trivial
    | (refine Br.mk (fun hb => ?_) (fun hb => ?_) <;> (first | (exfalso; revert hb; decide) | ((try simp only [BL] at hb) <;> (try simp only [DL] at hb) <;> conv => whnf)))
    | (refine And.intro ?_ ?_; (focus (first | exact id | exact rfl | exact trivial | (intro hg; first | exact hg | exact rfl | (simp; done) | (simp at hg ⊢; assumption)) | omega | decide | exact is2_c _ _ _ | exact is1_c _ _ | exact isS_c _ _ | exact isB_c _ _ | exact Nat.le_refl _ | assumption | exact mulLe (by decide) (by omega) | exact mulLe2 (by decide) (by omega) (by omega) | (intros; simp only [BL] at *; omega) | (intros; (try simp only [BL] at *); (try simp only [DL] at *); omega) | (intros; simp only [BL] at *; rw [wr_id (by omega) (by omega)]; omega) | (intro h1 h2; exact Bool.and_eq_true_iff.2 ⟨h1, h2⟩) | (intros; simp_all; done))); conv => whnf)
    | (refine Or.inr (And.intro rfl ?_); first | (refine congrArg intV ?_) | (refine congrArg boolV ?_) | (refine tupII ?_ ?_) | (refine tupIII ?_ ?_ ?_) | (refine tupU ?_ ?_ ?_ ?_ ?_) | exact rfl))
  · refine ⟨[0], [rwI n x], .c (.v (.slice none 0 0)), rfl, ?_, rfl, rfl, ?_, Nat.le_refl _, .inr ⟨hbn (by simpa using hb), rfl, rfl⟩⟩
    all_goals repeat' (first | (refine And.intro ?_ ?_) | exact trivial | exact rfl | exact fun h => Bool.noConfusion h | exact fun _ _ _ _ => rfl)
  · refine ⟨[0, 2], [rwI n x, rwI n x], .own 1, rfl, ?_, rfl, rfl, ?_, Nat.le_add_right 1 1, .inl ⟨rfl, rfl⟩⟩
    all_goals repeat' (first | (refine And.intro ?_ ?_) | exact trivial | exact rfl | exact (Nat.zero_add _).symm | exact fun h => Bool.noConfusion h | exact fun _ _ _ _ => rfl | omega)
structure Kept (A : Prop) : Prop where
  v : A
theorem share {A G : Prop} (h : Kept A → G) (a : A) : G := h ⟨a⟩
theorem LoopG.sub {P : Program} {N : Nat} {c : Code} {S S' : AS} {K : Ex → AS → Prop} (h : LoopG P N c S' K) (h0 : ∃ (x : Nat) (π : List Nat), True ∧ 0 < 1 ∧ Sub π S S') : LoopG P N c S K := by
  obtain ⟨_, π, _, _, hs⟩ := h0
  exact ⟨fun w0 I0 σ I a w hd hN hr => h.sem w0 I0 _ I a w hd hN (hr.sub hs)⟩
def sSm : List AV → Sd × AV
  | [.c (.sl 1 n f), .c (.sl 1 m g)] => (.p (is1 n f ∧ is1 m g ∧ n ≤ 1000000 ∧ m = n ∧ ∀ i, i < n → d0 f i = d0 g i), boolV true)
  | _ => (.p False, .top)
def gamUL : Gam := fun f => match f with
  | 15 => some sSm
  | 10 => some sSm
  | 11 => some (sT Tsk.ok fun t => intV (tskE t))
  | 12 => some (sTx (fun t nx _ => tskE t = 0 ∧ nx ≤ maxLen) fun t nx x => intV (plE t x nx))
  | 13 => some (sTx (fun t nx x => tskE t = 0 ∧ nx = t.n ∧ fst (dyE t x) t.n = 0) fun t _ x => intV (S (coK t x) t.n))
  | _ => none
theorem gamUL_ok : GOk Try.prog gamUL := fun f g h => by
  unfold gamUL at h
  split at h
  · injection h with h; subst h
    intro args hs _
    unfold sSm at hs ⊢
    split at hs
    · exact (sameI _ _ _ _ hs.2.2).le (Le.cons (Le1.sl hs.1) (Le.cons (Le1.sl hs.2.1) Le.nil))
    · exact hs.elim
  · injection h with h; subst h
    intro args hs _
    unfold sSm at hs ⊢
    split at hs
    · exact (eqI _ _ _ _ hs.2.2).le (Le.cons (Le1.sl hs.1) (Le.cons (Le1.sl hs.2.1) Le.nil))
    · exact hs.elim
  · injection h with h; subst h; exact sT_ok upErr
  · injection h with h; subst h; exact sTx_ok fun t nx x hp => upPlan t x nx hp.1 hp.2
  · injection h with h; subst h; exact sTx_ok fun t nx x hp => by obtain ⟨h1, rfl, h2⟩ := hp; exact upCost t x h1 h2
  · cases h

/-- the fixed example -/
def pairT : Tsk := ⟨2, fun k => if k = 0 then ⟨#[65]⟩ else ⟨#[66]⟩, fun _ => 1, fun _ => 0, fun _ => 1, fun _ => 3, 1, fun _ => 0, fun _ => 1, 2⟩
theorem pair_ok : pairT.ok := ⟨by decide, by decide, fun k hk => by
  match k, hk with
  | 0, _ => decide
  | 1, _ => decide⟩
theorem pair_best : (bres pairT).1 = 2 ∧ (bres pairT).2.1 0 = 0 ∧ (bres pairT).2.1 1 = 1 ∧ (bres pairT).2.2.1 = 3 ∧ (bres pairT).2.2.2 = 0 := by decide +kernel
def tCut (t : Tsk) : Tsk := { t with n := min t.n 3 }

def ordUL : Ord := fun id => if id = 20 then some (.go 0 (.go 3 (.fork (.alt 1 (.go 2 (.go 4 (.go 5 (.go 6 (.go 7 (.done)))))) (.alt 2 (.go 1 (.go 4 (.go 5 (.go 6 (.go 7 (.done)))))) (.none)))))) else none
theorem dset_0 {wd g : Nat → Nat} {n j : Nat} (h : ∀ k, k < n → g k < wd k) (hj : 0 < wd j) : ∀ k, k < n → dset g j 0 k < wd k := fun k hk => by
  by_cases e : k = j
  · rw [e, dset_at]; exact hj
  · rw [dset_ne e]; exact h k hk
theorem dset_n {wd g : Nat → Nat} {n j : Nat} (h : ∀ k, k < n → g k < wd k) (hj : g j + 1 < wd j) : ∀ k, k < n → dset g j (g j + 1) k < wd k := fun k hk => by
  by_cases e : k = j
  · rw [e, dset_at]; exact hj
  · rw [dset_ne e]; exact h k hk
theorem dset_z {g : Nat → Nat} {n j : Nat} (h : ∀ k, j ≤ k → k < n → g k = 0) : ∀ k, j - 1 ≤ k → k < n → dset g (j - 1) 0 k = 0 := fun k h1 h2 => by
  by_cases e : k = j - 1
  · rw [e, dset_at]
  · rw [dset_ne e]; exact h k (by omega) h2
def tyTsk : Ty := .st (.cons (.sl (.st (.cons .s (.cons (.i .i64) (.cons (.i .i64) (.cons (.i .i64) (.cons (.i .i64) .nil))))))) (.cons (.sl (.ar 2 (.i .i64))) (.cons (.i .i64) .nil)))
set_option maxHeartbeats 4000000 in
theorem ubLaw (t : Tsk) (ht : t.ok) : Fn1 Try.prog 3 [tV t] (boolV true) := by
  refine fn_of_wpx (O := ordUL) tab_ok gamUL_ok mixed Try.func3 (by kernel_rfl) rfl rfl rfl (by simp [Try.ntmps3]) (by kernel_rfl) ?_
  conv => whnf
  repeat' (first
    | (refine NilG.mk fun bn hbn hbx => ?_; conv => whnf)
    | (refine Both.mk ?_ ?_ <;> conv => whnf)
    | exact trivial
    | (refine Br.mk (fun hb => ?_) (fun hb => ?_) <;> (first | (exfalso; revert hb; decide) | ((try simp only [BL] at hb) <;> (try simp only [DL] at hb) <;> conv => whnf)))
    | (refine And.intro ?_ ?_; (focus (first | exact id | exact rfl | exact trivial | (intro hg; first | exact hg | exact rfl | (simp; done) | (simp at hg ⊢; assumption)) | omega | decide | exact is2_c _ _ _ | exact is1_c _ _ | exact isS_c _ _ | exact isB_c _ _ | exact Nat.le_refl _ | assumption | exact mulLe (by decide) (by omega) | exact mulLe2 (by decide) (by omega) (by omega) | (intros; simp only [BL] at *; omega) | (intros; (try simp only [BL] at *); (try simp only [DL] at *); omega) | (intros; simp only [BL] at *; rw [wr_id (by omega) (by omega)]; omega) | (intro h1 h2; exact Bool.and_eq_true_iff.2 ⟨h1, h2⟩) | (intros; simp_all; done))); conv => whnf)
    | (refine Or.inr (And.intro rfl ?_); first | (refine congrArg intV ?_) | (refine congrArg boolV ?_) | (refine tupII ?_ ?_) | (refine tupIII ?_ ?_ ?_) | (refine tupU ?_ ?_ ?_ ?_ ?_) | exact rfl))
  refine CallG.mk (Fn.mono ((upBest pairT pair_ok).le (Le.cons (Le1.agg (Le.cons (Le1.sl fun k hk j hj => ?_) (Le.cons (Le1.sl fun k hk j hj => ?_) (Le.cons (Le1.refl _) Le.nil)))) Le.nil)) ?_)
  · match k, j, hk, hj with
    | 0, 0, _, _ => rfl
    | 0, 1, _, _ => rfl
    | 0, 2, _, _ => rfl
    | 0, 3, _, _ => rfl
    | 0, 4, _, _ => rfl
    | 1, 0, _, _ => rfl
    | 1, 1, _, _ => rfl
    | 1, 2, _, _ => rfl
    | 1, 3, _, _ => rfl
    | 1, 4, _, _ => rfl
  · match k, j, hk, hj with
    | 0, 0, _, _ => rfl
    | 0, 1, _, _ => rfl
  rintro obs r ⟨rfl, rfl⟩
  obtain ⟨b1, b2, b3, b4, b5⟩ := pair_best
  obtain ⟨x, hx0, hx1, hbp⟩ : ∃ x : Nat → Int, x 0 = 0 ∧ x 1 = 1 ∧ AV.tup [.c (.sl 1 (bres pairT).1 (c1 (bres pairT).2.1)), intV (bres pairT).2.2.1, intV (bres pairT).2.2.2] = .tup [.c (.sl 1 2 (c1 x)), intV 3, intV 0] := ⟨_, b2, b3, by rw [b1, b4, b5]⟩
  rw [hbp]
  conv => whnf
  repeat' (first
    | (refine NilG.mk fun bn hbn hbx => ?_; conv => whnf)
    | (refine Both.mk ?_ ?_ <;> conv => whnf)
    | exact trivial
    | (refine Br.mk (fun hb => ?_) (fun hb => ?_) <;> (first | (exfalso; revert hb; decide) | ((try simp only [BL] at hb) <;> (try simp only [DL] at hb) <;> conv => whnf)))
    | (refine And.intro ?_ ?_; (focus (first | exact id | exact rfl | exact trivial | (intro hg; first | exact hg | exact rfl | (simp; done) | (simp at hg ⊢; assumption)) | omega | decide | exact is2_c _ _ _ | exact is1_c _ _ | exact isS_c _ _ | exact isB_c _ _ | exact Nat.le_refl _ | assumption | exact mulLe (by decide) (by omega) | exact mulLe2 (by decide) (by omega) (by omega) | (intros; simp only [BL] at *; omega) | (intros; (try simp only [BL] at *); (try simp only [DL] at *); omega) | (intros; simp only [BL] at *; rw [wr_id (by omega) (by omega)]; omega) | (intro h1 h2; exact Bool.and_eq_true_iff.2 ⟨h1, h2⟩) | (intros; simp_all; done))); conv => whnf)
    | (refine Or.inr (And.intro rfl ?_); first | (refine congrArg intV ?_) | (refine congrArg boolV ?_) | (refine tupII ?_ ?_) | (refine tupIII ?_ ?_ ?_) | (refine tupU ?_ ?_ ?_ ?_ ?_) | exact rfl))
  refine And.intro (fun _ => ?_) (fun hg => absurd hg (by decide))
  conv => whnf
  repeat' (first
    | (refine NilG.mk fun bn hbn hbx => ?_; conv => whnf)
    | (refine Both.mk ?_ ?_ <;> conv => whnf)
    | exact trivial
    | (refine Br.mk (fun hb => ?_) (fun hb => ?_) <;> (first | (exfalso; revert hb; decide) | ((try simp only [BL] at hb) <;> (try simp only [DL] at hb) <;> conv => whnf)))
    | (refine And.intro ?_ ?_; (focus (first | exact id | exact rfl | exact trivial | (intro hg; first | exact hg | exact rfl | (simp; done) | (simp at hg ⊢; assumption)) | omega | decide | exact is2_c _ _ _ | exact is1_c _ _ | exact isS_c _ _ | exact isB_c _ _ | exact Nat.le_refl _ | assumption | exact mulLe (by decide) (by omega) | exact mulLe2 (by decide) (by omega) (by omega) | (intros; simp only [BL] at *; omega) | (intros; (try simp only [BL] at *); (try simp only [DL] at *); omega) | (intros; simp only [BL] at *; rw [wr_id (by omega) (by omega)]; omega) | (intro h1 h2; exact Bool.and_eq_true_iff.2 ⟨h1, h2⟩) | (intros; simp_all; done))); conv => whnf)
    | (refine Or.inr (And.intro rfl ?_); first | (refine congrArg intV ?_) | (refine congrArg boolV ?_) | (refine tupII ?_ ?_) | (refine tupIII ?_ ?_ ?_) | (refine tupU ?_ ?_ ?_ ?_ ?_) | exact rfl))
  refine And.intro (fun _ => ⟨is1_c _ _, fun k hk j hj => ?_, by decide, rfl, fun k hk => ?_⟩) ?_
  · match k, j, hk, hj with
    | 0, 0, _, _ => rfl
    | 1, 0, _, _ => rfl
  · match k, hk with
    | 0, _ => exact hx0
    | 1, _ => exact hx1
  have hN : (min (t.n : Int) 3).toNat - Int.toNat 0 = min t.n 3 := by have : Int.toNat 0 = 0 := rfl; omega
  have hf : (fun k j => cJ t (Int.toNat 0 + k) j) = cJ t := by
    funext k j
    rw [show Int.toNat 0 + k = k by have : Int.toNat 0 = 0 := rfl; omega]
  conv => whnf
  repeat' (first
    | (refine NilG.mk fun bn hbn hbx => ?_; conv => whnf)
    | (refine Both.mk ?_ ?_ <;> conv => whnf)
    | exact trivial
    | (refine Br.mk (fun hb => ?_) (fun hb => ?_) <;> (first | (exfalso; revert hb; decide) | ((try simp only [BL] at hb) <;> (try simp only [DL] at hb) <;> conv => whnf)))
    | (refine And.intro ?_ ?_; (focus (first | exact id | exact rfl | exact trivial | (intro hg; first | exact hg | exact rfl | (simp; done) | (simp at hg ⊢; assumption)) | omega | decide | exact is2_c _ _ _ | exact is1_c _ _ | exact isS_c _ _ | exact isB_c _ _ | exact Nat.le_refl _ | assumption | exact mulLe (by decide) (by omega) | exact mulLe2 (by decide) (by omega) (by omega) | (intros; simp only [BL] at *; omega) | (intros; (try simp only [BL] at *); (try simp only [DL] at *); omega) | (intros; simp only [BL] at *; rw [wr_id (by omega) (by omega)]; omega) | (intro h1 h2; exact Bool.and_eq_true_iff.2 ⟨h1, h2⟩) | (intros; simp_all; done))); conv => whnf)
    | (refine Or.inr (And.intro rfl ?_); first | (refine congrArg intV ?_) | (refine congrArg boolV ?_) | (refine tupII ?_ ?_) | (refine tupIII ?_ ?_ ?_) | (refine tupU ?_ ?_ ?_ ?_ ?_) | exact rfl))
  obtain ⟨T, hT⟩ : ∃ T, T = tCut t := ⟨_, rfl⟩
  have eN : min t.n 3 = T.n := by rw [hT]; rfl
  have eJ : cJ t = cJ T := by rw [hT]; rfl
  have em : t.m = T.m := by rw [hT]; rfl
  have eab : c2 t.a t.b = c2 T.a T.b := by rw [hT]; rfl
  have ec : t.c = T.c := by rw [hT]; rfl
  have ok : T.ok := by
    rw [hT]
    exact ⟨by have := ht.1; show min t.n 3 ≤ maxLen; omega, ht.2.1, fun k hk => ht.2.2 k (by have hk : k < min t.n 3 := hk; omega)⟩
  have hT3 : T.n ≤ 3 := by omega
  rw [hN, hf, eN, eJ, em, eab, ec]
  clear hb hf hN eN eJ em eab ec hT hbp b1 b2 b3 b4 b5 hx0 hx1
  refine CallG.mk (Fn.mono (upBest T ok) ?_)
  rintro obs r ⟨rfl, rfl⟩
  conv => whnf
  repeat' (first
    | (refine NilG.mk fun bn hbn hbx => ?_; conv => whnf)
    | (refine Both.mk ?_ ?_ <;> conv => whnf)
    | exact trivial
    | (refine Br.mk (fun hb => ?_) (fun hb => ?_) <;> (first | (exfalso; revert hb; decide) | ((try simp only [BL] at hb) <;> (try simp only [DL] at hb) <;> conv => whnf)))
    | (refine And.intro ?_ ?_; (focus (first | exact id | exact rfl | exact trivial | (intro hg; first | exact hg | exact rfl | (simp; done) | (simp at hg ⊢; assumption)) | omega | decide | exact is2_c _ _ _ | exact is1_c _ _ | exact isS_c _ _ | exact isB_c _ _ | exact Nat.le_refl _ | assumption | exact mulLe (by decide) (by omega) | exact mulLe2 (by decide) (by omega) (by omega) | (intros; simp only [BL] at *; omega) | (intros; (try simp only [BL] at *); (try simp only [DL] at *); omega) | (intros; simp only [BL] at *; rw [wr_id (by omega) (by omega)]; omega) | (intro h1 h2; exact Bool.and_eq_true_iff.2 ⟨h1, h2⟩) | exact ⟨isT_c T, ok⟩ | (intros; simp_all; done))); conv => whnf)
    | (refine Or.inr (And.intro rfl ?_); first | (refine congrArg intV ?_) | (refine congrArg boolV ?_) | (refine tupII ?_ ?_) | (refine tupIII ?_ ?_ ?_) | (refine tupU ?_ ?_ ?_ ?_ ?_) | exact rfl))
  · have hE : tskE T ≠ 0 := hb
    have hr : bres T = (0, fun _ => 0, 0, tskE T) := if_pos hE
    rw [hr]
    show (tskE T == tskE T && (0 : Int) == 0 && (0 : Int) == 0) = true
    simp
  have hE : tskE T = 0 := hb
  have hk := TskOk.of hE
  have hr : bres T = match dfT T T.n zD none with
    | none => (0, fun _ => 0, 0, 8)
    | some p => (T.n, xd T p.1, p.2, 0) := if_neg (fun h => h hE)
  generalize bres T = R at hr
  obtain ⟨nb, xb, cb, eb⟩ := R
  have hb8 : e3.bytes = 8 := rfl
  refine sem_loop tab_ok gamUL_ok mixed (by kernel_rfl) (O := ordUL) (fun i : Nat => ⟨[(1, .lp 0 0), (7, .c (.sl 1 nb (c1 xb))), (8, intV cb), (9, intV eb), (11, .c (.v (.slice none 0 0))), (12, boolV false), (13, intV 0), (14, .own 1), (77, .c (.sl 5 T.n (cJ T))), (78, intV T.n), (79, intV i)], [tB T, .row 3 1 T.n false (c1 fun k => if k < i then T.ff k else 0)]⟩) (fun i => i ≤ T.n) (fun i => T.n - i) ⟨0, [?_, ?_], Nat.zero_le _, ?_⟩ fun i hi => ?_
  rotate_left 2
  · refine Sub.of ?_ ?_ ?_
    repeat' (first | (refine And.intro ?_ ?_) | exact trivial | exact fun _ _ _ => hsc _ _ | (exact congrArg intV (by first | with_reducible rfl | with_reducible assumption)) | exact (rfl : AV.idsLt _ _ = true) | exact (rfl : _ = AV.ren _ (.own _)) | exact (rfl : _ = AV.ren _ (.fn _ _)) | exact (rfl : _ = AV.ren _ (.gh _)) | (exact congrArg intV (by assumption)) | (refine congrArg intV ((wr_id (by omega) (by omega)).trans (by omega))) | exact rfl | (simp only [Int.toNat_natCast, Int.toNat_zero, Nat.sub_zero, Nat.zero_add]; first | exact rfl | done) | exact all0 | exact fun h => Bool.noConfusion h | exact fun _ _ _ _ => rfl | omega)
    · intro a ha b hb9
      have hb9 : b < 1 := hb9
      match b, hb9 with
      | 0, _ => exact congrArg iL (if_neg (Nat.not_lt_zero a)).symm
  conv => whnf
  repeat' (first
    | (refine NilG.mk fun bn hbn hbx => ?_; conv => whnf)
    | (refine Both.mk ?_ ?_ <;> conv => whnf)
    | exact trivial
    | (refine Br.mk (fun hb => ?_) (fun hb => ?_) <;> (first | (exfalso; revert hb; decide) | ((try simp only [BL] at hb) <;> (try simp only [DL] at hb) <;> conv => whnf)))
    | (refine And.intro ?_ ?_; (focus (first | exact id | exact rfl | exact trivial | (intro hg; first | exact hg | exact rfl | (simp; done) | (simp at hg ⊢; assumption)) | omega | decide | exact is2_c _ _ _ | exact is1_c _ _ | exact isS_c _ _ | exact isB_c _ _ | exact Nat.le_refl _ | assumption | exact mulLe (by decide) (by omega) | exact mulLe2 (by decide) (by omega) (by omega) | (intros; simp only [BL] at *; omega) | (intros; (try simp only [BL] at *); (try simp only [DL] at *); omega) | (intros; simp only [BL] at *; rw [wr_id (by omega) (by omega)]; omega) | (intro h1 h2; exact Bool.and_eq_true_iff.2 ⟨h1, h2⟩) | (intros; simp_all; done))); conv => whnf)
    | (refine Or.inr (And.intro rfl ?_); first | (refine congrArg intV ?_) | (refine congrArg boolV ?_) | (refine tupII ?_ ?_) | (refine tupIII ?_ ?_ ?_) | (refine tupU ?_ ?_ ?_ ?_ ?_) | exact rfl))
  · refine ⟨i + 1, [?_, ?_], by omega, by omega, ?_⟩
    rotate_left 2
    refine Sub.of ?_ ?_ ?_
    repeat' (first | (refine And.intro ?_ ?_) | exact trivial | exact fun _ _ _ => hsc _ _ | (exact congrArg intV (by first | with_reducible rfl | with_reducible assumption)) | exact (rfl : AV.idsLt _ _ = true) | exact (rfl : _ = AV.ren _ (.own _)) | exact (rfl : _ = AV.ren _ (.fn _ _)) | exact (rfl : _ = AV.ren _ (.gh _)) | (exact congrArg intV (by assumption)) | (refine congrArg intV ((wr_id (by omega) (by omega)).trans (by omega))) | exact rfl | (simp only [Int.toNat_natCast, Int.toNat_zero, Nat.sub_zero, Nat.zero_add]; first | exact rfl | done) | exact all0 | exact fun h => Bool.noConfusion h | exact fun _ _ _ _ => rfl | omega)
    intro a ha b hb9
    match b, hb9 with
    | 0, _ =>
      by_cases e : a = i
      · refine (if_pos e).trans ?_
        rw [e]
        exact congrArg iL (if_pos (Nat.lt_succ_self i)).symm
      · refine (if_neg e).trans (congrArg iL ?_)
        show (if a < i then T.ff a else 0) = if a < i + 1 then T.ff a else 0
        by_cases e2 : a < i
        · rw [if_pos e2, if_pos (by omega)]
        · rw [if_neg e2, if_neg (by omega)]
  have hin : i = T.n := by omega
  clear hb
  refine sem_loop tab_ok gamUL_ok mixed (by kernel_rfl) (O := ordUL) (fun x : (Nat → Nat) × Bst => ⟨[(1, .lp 0 0), (7, .c (.sl 1 nb (c1 xb))), (8, intV cb), (9, intV eb), (11, bA T x.2), (12, boolV x.2.isSome), (13, bC x.2), (14, .own 1)], [tB T, .row 3 1 T.n false (c1 (xd T x.1))]⟩) (fun x => aft T.n (wdT T) (updT T) T.n x.1 (updT T x.1 x.2) = dfT T T.n zD none ∧ ∀ k, k < T.n → x.1 k < wdT T k) (fun x => left (wdT T) T.n x.1) ⟨(zD, none), [?_, ?_], ⟨aft_start (fun k _ => wdT_pos hk k) (fun _ _ => rfl), fun k _ => wdT_pos hk k⟩, ?_⟩ fun x hx => ?_
  rotate_left 2
  · refine Sub.of ?_ ?_ ?_
    repeat' (first | (refine And.intro ?_ ?_) | exact trivial | exact fun _ _ _ => hsc _ _ | (exact congrArg intV (by first | with_reducible rfl | with_reducible assumption)) | exact (rfl : AV.idsLt _ _ = true) | exact (rfl : _ = AV.ren _ (.own _)) | exact (rfl : _ = AV.ren _ (.fn _ _)) | exact (rfl : _ = AV.ren _ (.gh _)) | (exact congrArg intV (by assumption)) | (refine congrArg intV ((wr_id (by omega) (by omega)).trans (by omega))) | exact rfl | (simp only [Int.toNat_natCast, Int.toNat_zero, Nat.sub_zero, Nat.zero_add]; first | exact rfl | done) | exact all0 | exact fun h => Bool.noConfusion h | exact fun _ _ _ _ => rfl | omega)
    · intro a ha b hb9
      match b, hb9 with
      | 0, _ =>
        refine congrArg iL ?_
        show (if a < i then T.ff a else 0) = T.ff a + ((zD a : Nat) : Int)
        rw [if_pos (by omega)]
        unfold zD
        omega
  obtain ⟨g, s⟩ := x
  obtain ⟨hx1, hx2⟩ := hx
  simp only [] at hx1 hx2
  have hdy : fst (dyE T (xd T g)) T.n = 0 := fst_of fun k hkn => by
    have := xd_in hk hkn (hx2 k hkn)
    exact if_neg (by omega)
  have hpl : plE T (xd T g) T.n = fst (wrE T (xd T g)) T.n := by
    unfold plE
    rw [if_neg (fun h => h rfl), if_neg (fun h => h hdy)]
  obtain ⟨s1, hu⟩ : ∃ s1, updT T g s = s1 := ⟨_, rfl⟩
  rw [hu] at hx1
  have e17 : IntKind.i64.wrap ((T.n : Int) - 1) = (T.n : Int) - 1 := wr_id (by omega) (by omega)
  apply share
  · intro key
    rcases s with _ | p
    iterate 2
      · conv => whnf
        repeat' (first
          | (refine NilG.mk fun bn hbn hbx => ?_; conv => whnf)
          | (refine Both.mk ?_ ?_ <;> conv => whnf)
          | exact trivial
          | (refine Br.mk (fun hb => ?_) (fun hb => ?_) <;> (first | (exfalso; revert hb; decide) | ((try simp only [BL] at hb) <;> (try simp only [DL] at hb) <;> conv => whnf)))
          | (refine And.intro ?_ ?_; (focus (first | exact id | exact rfl | exact trivial | (intro hg; first | exact hg | exact rfl | (simp; done) | (simp at hg ⊢; assumption)) | omega | decide | exact is2_c _ _ _ | exact is1_c _ _ | exact isS_c _ _ | exact isB_c _ _ | exact Nat.le_refl _ | assumption | exact mulLe (by decide) (by omega) | exact mulLe2 (by decide) (by omega) (by omega) | (intros; simp only [BL] at *; omega) | (intros; (try simp only [BL] at *); (try simp only [DL] at *); omega) | (intros; simp only [BL] at *; rw [wr_id (by omega) (by omega)]; omega) | (intro h1 h2; exact Bool.and_eq_true_iff.2 ⟨h1, h2⟩) | first | exact ⟨isT_c T, is1_c _ _, hE, ok.1⟩ | exact fun _ => ⟨isT_c T, is1_c _ _, hE, rfl, hdy⟩ | (intros; simp_all; done))); conv => whnf)
          | (refine Or.inr (And.intro rfl ?_); first | (refine congrArg intV ?_) | (refine congrArg boolV ?_) | (refine tupII ?_ ?_) | (refine tupIII ?_ ?_ ?_) | (refine tupU ?_ ?_ ?_ ?_ ?_) | exact rfl))
        iterate 2
          · have hup : s1 = some (g, S (coK T (xd T g)) T.n) := hu.symm.trans (if_pos ⟨hpl.symm.trans hb.1, by
              first
                | rfl
                | (rcases hb.2 with h | h
                   · cases h
                   · exact decide_eq_true h)⟩)
            refine CallG.wr [1] rfl (FnM.mono (upCloneM T.n (xd T g) (by omega)) ?_)
            rintro obs r (⟨rfl, rfl⟩ | ⟨hn0, rfl, rfl⟩)
            · conv => whnf
              repeat' (first
                | (refine NilG.mk fun bn hbn hbx => ?_; conv => whnf)
                | (refine Both.mk ?_ ?_ <;> conv => whnf)
                | exact trivial
                | (refine Br.mk (fun hb => ?_) (fun hb => ?_) <;> (first | (exfalso; revert hb; decide) | ((try simp only [BL] at hb) <;> (try simp only [DL] at hb) <;> conv => whnf)))
                | (refine And.intro ?_ ?_; (focus (first | exact id | exact rfl | exact trivial | (intro hg; first | exact hg | exact rfl | (simp; done) | (simp at hg ⊢; assumption)) | omega | decide | exact is2_c _ _ _ | exact is1_c _ _ | exact isS_c _ _ | exact isB_c _ _ | exact Nat.le_refl _ | assumption | exact mulLe (by decide) (by omega) | exact mulLe2 (by decide) (by omega) (by omega) | (intros; simp only [BL] at *; omega) | (intros; (try simp only [BL] at *); (try simp only [DL] at *); omega) | (intros; simp only [BL] at *; rw [wr_id (by omega) (by omega)]; omega) | (intro h1 h2; exact Bool.and_eq_true_iff.2 ⟨h1, h2⟩) | exact ⟨isT_c T, is1_c _ _, hE, rfl, hdy⟩ | (intros; simp_all; done))); conv => whnf)
                | (refine Or.inr (And.intro rfl ?_); first | (refine congrArg intV ?_) | (refine congrArg boolV ?_) | (refine tupII ?_ ?_) | (refine tupIII ?_ ?_ ?_) | (refine tupU ?_ ?_ ?_ ?_ ?_) | exact rfl))
              refine LoopG.frz [2] ?_
              refine LoopG.sub (S' := ⟨[(1, .lp 0 0), (7, .c (.sl 1 nb (c1 xb))), (8, intV cb), (9, intV eb), (11, bA T s1), (12, boolV s1.isSome), (13, bC s1), (14, .own 1), (17, intV ((T.n : Int) - 1))], [tB T, rwI T.n (xd T g)]⟩) key.v ?_
              refine ⟨0, [?_, ?_], trivial, by decide, ?_⟩
              rotate_left 2
              refine Sub.of ?_ ?_ ?_
              repeat' (first | ((rw [hup]; exact rfl)) | (refine And.intro ?_ ?_) | exact trivial | exact fun _ _ _ => hsc _ _ | (exact congrArg intV (by first | with_reducible rfl | with_reducible assumption)) | exact (rfl : AV.idsLt _ _ = true) | exact (rfl : _ = AV.ren _ (.own _)) | exact (rfl : _ = AV.ren _ (.fn _ _)) | exact (rfl : _ = AV.ren _ (.gh _)) | (exact congrArg intV (by assumption)) | (refine congrArg intV ((wr_id (by omega) (by omega)).trans (by omega))) | exact rfl | (simp only [Int.toNat_natCast, Int.toNat_zero, Nat.sub_zero, Nat.zero_add]; first | exact rfl | done) | exact all0 | exact fun h => Bool.noConfusion h | exact fun _ _ _ _ => rfl | omega)
            · conv => whnf
              repeat' (first
                | (refine NilG.mk fun bn hbn hbx => ?_; conv => whnf)
                | (refine Both.mk ?_ ?_ <;> conv => whnf)
                | exact trivial
                | (refine Br.mk (fun hb => ?_) (fun hb => ?_) <;> (first | (exfalso; revert hb; decide) | ((try simp only [BL] at hb) <;> (try simp only [DL] at hb) <;> conv => whnf)))
                | (refine And.intro ?_ ?_; (focus (first | exact id | exact rfl | exact trivial | (intro hg; first | exact hg | exact rfl | (simp; done) | (simp at hg ⊢; assumption)) | omega | decide | exact is2_c _ _ _ | exact is1_c _ _ | exact isS_c _ _ | exact isB_c _ _ | exact Nat.le_refl _ | assumption | exact mulLe (by decide) (by omega) | exact mulLe2 (by decide) (by omega) (by omega) | (intros; simp only [BL] at *; omega) | (intros; (try simp only [BL] at *); (try simp only [DL] at *); omega) | (intros; simp only [BL] at *; rw [wr_id (by omega) (by omega)]; omega) | (intro h1 h2; exact Bool.and_eq_true_iff.2 ⟨h1, h2⟩) | exact ⟨isT_c T, is1_c _ _, hE, rfl, hdy⟩ | (intros; simp_all; done))); conv => whnf)
                | (refine Or.inr (And.intro rfl ?_); first | (refine congrArg intV ?_) | (refine congrArg boolV ?_) | (refine tupII ?_ ?_) | (refine tupIII ?_ ?_ ?_) | (refine tupU ?_ ?_ ?_ ?_ ?_) | exact rfl))
              refine LoopG.view 11 rfl (a' := .c (.sl 1 T.n (c1 (xd T g)))) (by rw [hn0]; exact Le1.nil) ?_
              refine LoopG.sub (S' := ⟨[(1, .lp 0 0), (7, .c (.sl 1 nb (c1 xb))), (8, intV cb), (9, intV eb), (11, bA T s1), (12, boolV s1.isSome), (13, bC s1), (14, .own 1), (17, intV ((T.n : Int) - 1))], [tB T, rwI T.n (xd T g)]⟩) key.v ?_
              refine ⟨0, [?_, ?_], trivial, by decide, ?_⟩
              rotate_left 2
              refine Sub.of ?_ ?_ ?_
              repeat' (first | ((rw [hup]; exact rfl)) | (refine And.intro ?_ ?_) | exact trivial | exact fun _ _ _ => hsc _ _ | (exact congrArg intV (by first | with_reducible rfl | with_reducible assumption)) | exact (rfl : AV.idsLt _ _ = true) | exact (rfl : _ = AV.ren _ (.own _)) | exact (rfl : _ = AV.ren _ (.fn _ _)) | exact (rfl : _ = AV.ren _ (.gh _)) | (exact congrArg intV (by assumption)) | (refine congrArg intV ((wr_id (by omega) (by omega)).trans (by omega))) | exact rfl | (simp only [Int.toNat_natCast, Int.toNat_zero, Nat.sub_zero, Nat.zero_add]; first | exact rfl | done) | exact all0 | exact fun h => Bool.noConfusion h | exact fun _ _ _ _ => rfl | omega)
        · have hup : s1 = _ := hu.symm.trans (if_neg fun h => by
            rcases hb with h1 | h1
            · exact h1 (hpl.trans h.1)
            · first
                | exact absurd h1.1 (by decide)
                | exact h1.2 (of_decide_eq_true h.2))
          refine LoopG.sub (S' := ⟨[(1, .lp 0 0), (7, .c (.sl 1 nb (c1 xb))), (8, intV cb), (9, intV eb), (11, bA T s1), (12, boolV s1.isSome), (13, bC s1), (14, .own 1), (17, intV ((T.n : Int) - 1))], [tB T, rwI T.n (xd T g)]⟩) key.v ?_
          refine ⟨0, [?_, ?_], trivial, by decide, ?_⟩
          rotate_left 2
          refine Sub.of ?_ ?_ ?_
          repeat' (first | ((rw [hup]; exact rfl)) | (refine And.intro ?_ ?_) | exact trivial | exact fun _ _ _ => hsc _ _ | (exact congrArg intV (by first | with_reducible rfl | with_reducible assumption)) | exact (rfl : AV.idsLt _ _ = true) | exact (rfl : _ = AV.ren _ (.own _)) | exact (rfl : _ = AV.ren _ (.fn _ _)) | exact (rfl : _ = AV.ren _ (.gh _)) | (exact congrArg intV (by assumption)) | (refine congrArg intV ((wr_id (by omega) (by omega)).trans (by omega))) | exact rfl | (simp only [Int.toNat_natCast, Int.toNat_zero, Nat.sub_zero, Nat.zero_add]; first | exact rfl | done) | exact all0 | exact fun h => Bool.noConfusion h | exact fun _ _ _ _ => rfl | omega)
  · clear hpl hdy hu e17
    refine sem_loop tab_ok gamUL_ok mixed (by kernel_rfl) (O := ordUL) (fun x : Nat × (Nat → Nat) => ⟨[(1, .lp 0 0), (7, .c (.sl 1 nb (c1 xb))), (8, intV cb), (9, intV eb), (11, bA T s1), (12, boolV s1.isSome), (13, bC s1), (14, .own 1), (17, intV ((x.1 : Int) - 1))], [tB T, rwI T.n (xd T x.2)]⟩) (fun x => x.1 ≤ T.n ∧ aft T.n (wdT T) (updT T) x.1 x.2 s1 = dfT T T.n zD none ∧ (∀ k, k < T.n → x.2 k < wdT T k) ∧ (∀ k, x.1 ≤ k → k < T.n → x.2 k = 0) ∧ ∀ k, k < x.1 → x.2 k = g k) (fun x => x.1) ⟨(T.n, g), [?_, ?_], ⟨Nat.le_refl _, hx1, hx2, fun k h1 h2 => absurd h2 (by omega), fun _ _ => rfl⟩, ?_⟩ fun y hy => ?_
    rotate_left 2
    · refine Sub.of ?_ ?_ ?_
      repeat' (first | (refine And.intro ?_ ?_) | exact trivial | exact fun _ _ _ => hsc _ _ | (exact congrArg intV (by first | with_reducible rfl | with_reducible assumption)) | exact (rfl : AV.idsLt _ _ = true) | exact (rfl : _ = AV.ren _ (.own _)) | exact (rfl : _ = AV.ren _ (.fn _ _)) | exact (rfl : _ = AV.ren _ (.gh _)) | (exact congrArg intV (by assumption)) | (refine congrArg intV ((wr_id (by omega) (by omega)).trans (by omega))) | exact rfl | (simp only [Int.toNat_natCast, Int.toNat_zero, Nat.sub_zero, Nat.zero_add]; first | exact rfl | done) | exact all0 | exact fun h => Bool.noConfusion h | exact fun _ _ _ _ => rfl | omega)
      all_goals (rcases s1 with _ | _ <;> rfl)
    obtain ⟨kk, g1⟩ := y
    dsimp only
    obtain ⟨y1, y2, y3, y4, y5⟩ := hy
    simp only [] at y1 y2 y3 y4 y5
    have hg1 : ∀ k, k < T.n → g1 k < wdT T k ∧ T.ff k + (wdT T k : Int) = T.la k + 1 ∧ wdT T k ≤ 12 ∧ 0 ≤ T.ff k ∧ T.ff k ≤ 60 := fun k h => ⟨y3 k h, wdT_la hk h, wdT_le hk k, by have := hk.job k h; omega⟩
    rcases s1 with _ | q
    · conv => whnf
      repeat' (first
        | (refine NilG.mk fun bn hbn hbx => ?_; conv => whnf)
        | (refine Both.mk ?_ ?_ <;> conv => whnf)
        | exact trivial
        | (refine Br.mk (fun hb => ?_) (fun hb => ?_) <;> (first | (exfalso; revert hb; decide) | ((try simp only [BL] at hb) <;> (try simp only [DL] at hb) <;> conv => whnf)))
        | (refine And.intro ?_ ?_; (focus (first | exact id | exact rfl | exact trivial | (intro hg; first | exact hg | exact rfl | (simp; done) | (simp at hg ⊢; assumption)) | omega | decide | exact is2_c _ _ _ | exact is1_c _ _ | exact isS_c _ _ | exact isB_c _ _ | exact Nat.le_refl _ | assumption | exact mulLe (by decide) (by omega) | exact mulLe2 (by decide) (by omega) (by omega) | (intros; simp only [BL] at *; omega) | (intros; (try simp only [BL] at *); (try simp only [DL] at *); omega) | (intros; simp only [BL] at *; rw [wr_id (by omega) (by omega)]; omega) | (intro h1 h2; exact Bool.and_eq_true_iff.2 ⟨h1, h2⟩) | first | exact fun hg => ⟨rfl, by have := of_decide_eq_true hg; omega, by decide⟩ | exact fun hg => (by have := of_decide_eq_true hg; omega) | exact fun hg => (by have := of_decide_eq_true hg; refine ⟨?_, ?_⟩ <;> omega) | (intros; simp_all; done))); conv => whnf)
        | (refine Or.inr (And.intro rfl ?_); first | (refine congrArg intV ?_) | (refine congrArg boolV ?_) | (refine tupII ?_ ?_) | (refine tupIII ?_ ?_ ?_) | (refine tupU ?_ ?_ ?_ ?_ ?_) | exact rfl))
      · obtain ⟨e1, e2, e3', e4, e5⟩ := hg1 (kk - 1) (by omega)
        have ek : ((kk : Int) - 1).toNat = kk - 1 := by omega
        have hx : T.ff (kk - 1) + (g1 (kk - 1) : Int) = T.la (kk - 1) := by have h9 := hb.2; rw [ek] at h9; exact h9
        have e17 : IntKind.i64.wrap ((kk : Int) - 1 - 1) = ((kk - 1 : Nat) : Int) - 1 := (wr_id (by omega) (by omega)).trans (by omega)
        have hback := aft_back (u := updT T) (s := none) (n := T.n) (wd := wdT T) (k := kk - 1) (g := g1) (by omega) (by omega)
        rw [show kk - 1 + 1 = kk by omega, y2] at hback
        refine ⟨(kk - 1, dset g1 (kk - 1) 0), [?_, ?_], ⟨by show kk - 1 ≤ T.n; omega, hback.symm, fun k h => (dset_0 y3 (by omega) k h), fun k h1 h2 => (dset_z y4 k h1 h2), fun k h => (dset_ne (by have h : k < kk - 1 := h; omega)).trans (y5 k (by have h : k < kk - 1 := h; omega))⟩, by show kk - 1 < kk; omega, ?_⟩
        rotate_left 2
        refine Sub.of ?_ ?_ ?_
        repeat' (first | (refine And.intro ?_ ?_) | exact trivial | exact fun _ _ _ => hsc _ _ | (exact congrArg intV (by first | with_reducible rfl | with_reducible assumption)) | exact (rfl : AV.idsLt _ _ = true) | exact (rfl : _ = AV.ren _ (.own _)) | exact (rfl : _ = AV.ren _ (.fn _ _)) | exact (rfl : _ = AV.ren _ (.gh _)) | (exact congrArg intV (by assumption)) | (refine congrArg intV ((wr_id (by omega) (by omega)).trans (by omega))) | exact rfl | (simp only [Int.toNat_natCast, Int.toNat_zero, Nat.sub_zero, Nat.zero_add]; first | exact rfl | done) | exact all0 | exact fun h => Bool.noConfusion h | exact fun _ _ _ _ => rfl | omega)
        intro a ha b hb9
        match b, hb9 with
        | 0, _ =>
          by_cases e : a = kk - 1
          · refine (if_pos (e.trans ek.symm)).trans ?_
            refine congrArg iL ?_
            show T.ff ((kk : Int) - 1).toNat = T.ff a + ((dset g1 (kk - 1) 0 a : Nat) : Int)
            rw [ek, e, dset_at]
            omega
          · refine (if_neg (by omega)).trans (congrArg iL ?_)
            show T.ff a + (g1 a : Int) = T.ff a + ((dset g1 (kk - 1) 0 a : Nat) : Int)
            rw [dset_ne e]
      · obtain rfl : kk = 0 := by omega
        have y2 : none = dfT T T.n zD none := y2
        rw [← y2] at hr
        obtain ⟨rfl, rfl, rfl, rfl⟩ : nb = 0 ∧ xb = (fun _ => 0) ∧ cb = 0 ∧ eb = 8 := by simpa using hr
        rfl
      · rename_i hnl
        obtain ⟨e1, e2, e3', e4, e5⟩ := hg1 (kk - 1) (by omega)
        have ek : ((kk : Int) - 1).toNat = kk - 1 := by omega
        have hx : T.ff (kk - 1) + (g1 (kk - 1) : Int) ≠ T.la (kk - 1) := fun h => by
          rcases hnl with h9 | h9
          · omega
          · rw [ek] at h9; exact h9 h
        have hnx : g1 (kk - 1) + 1 < wdT T (kk - 1) := by omega
        have hnext := aft_next (u := updT T) (wd := wdT T) (fun k _ => wdT_pos hk k) (k := kk - 1) (g := g1) (s := none) (by omega) hnx fun i h1 h2 => y4 i (by omega) h2
        rw [show kk - 1 + 1 = kk by omega, y2] at hnext
        have y6 := y5 (kk - 1) (by omega)
        refine ⟨(dset g1 (kk - 1) (g1 (kk - 1) + 1), none), [?_, ?_], ⟨hnext.symm, fun k h => (dset_n y3 hnx k h)⟩, left_lt (fun i => wdT_le hk i) (k := kk - 1) (fun i hi => (dset_ne (by omega)).trans (y5 i (by omega))) ((dset_at _ _ _).trans (by rw [y6])) (by rw [← y6]; exact hnx) (by omega), ?_⟩
        rotate_left 2
        refine Sub.of ?_ ?_ ?_
        repeat' (first | (refine And.intro ?_ ?_) | exact trivial | exact fun _ _ _ => hsc _ _ | (exact congrArg intV (by first | with_reducible rfl | with_reducible assumption)) | exact (rfl : AV.idsLt _ _ = true) | exact (rfl : _ = AV.ren _ (.own _)) | exact (rfl : _ = AV.ren _ (.fn _ _)) | exact (rfl : _ = AV.ren _ (.gh _)) | (exact congrArg intV (by assumption)) | (refine congrArg intV ((wr_id (by omega) (by omega)).trans (by omega))) | exact rfl | (simp only [Int.toNat_natCast, Int.toNat_zero, Nat.sub_zero, Nat.zero_add]; first | exact rfl | done) | exact all0 | exact fun h => Bool.noConfusion h | exact fun _ _ _ _ => rfl | omega)
        intro a ha b hb9
        match b, hb9 with
        | 0, _ =>
          by_cases e : a = kk - 1
          · refine (if_pos (e.trans ek.symm)).trans ?_
            refine congrArg iL ?_
            show IntKind.i64.wrap (T.ff ((kk : Int) - 1).toNat + (g1 ((kk : Int) - 1).toNat : Int) + 1) = T.ff a + ((dset g1 (kk - 1) (g1 (kk - 1) + 1) a : Nat) : Int)
            rw [ek, e, dset_at]
            exact (wr_id (by omega) (by omega)).trans (by omega)
          · refine (if_neg (by omega)).trans (congrArg iL ?_)
            show T.ff a + (g1 a : Int) = T.ff a + ((dset g1 (kk - 1) (g1 (kk - 1) + 1) a : Nat) : Int)
            rw [dset_ne e]
    · conv => whnf
      repeat' (first
        | (refine NilG.mk fun bn hbn hbx => ?_; conv => whnf)
        | (refine Both.mk ?_ ?_ <;> conv => whnf)
        | exact trivial
        | (refine Br.mk (fun hb => ?_) (fun hb => ?_) <;> (first | (exfalso; revert hb; decide) | ((try simp only [BL] at hb) <;> (try simp only [DL] at hb) <;> conv => whnf)))
        | (refine And.intro ?_ ?_; (focus (first | exact id | exact rfl | exact trivial | (intro hg; first | exact hg | exact rfl | (simp; done) | (simp at hg ⊢; assumption)) | omega | decide | exact is2_c _ _ _ | exact is1_c _ _ | exact isS_c _ _ | exact isB_c _ _ | exact Nat.le_refl _ | assumption | exact mulLe (by decide) (by omega) | exact mulLe2 (by decide) (by omega) (by omega) | (intros; simp only [BL] at *; omega) | (intros; (try simp only [BL] at *); (try simp only [DL] at *); omega) | (intros; simp only [BL] at *; rw [wr_id (by omega) (by omega)]; omega) | (intro h1 h2; exact Bool.and_eq_true_iff.2 ⟨h1, h2⟩) | first | exact fun hg => ⟨rfl, by have := of_decide_eq_true hg; omega, by decide⟩ | exact fun hg => (by have := of_decide_eq_true hg; omega) | exact fun hg => (by have := of_decide_eq_true hg; refine ⟨?_, ?_⟩ <;> omega) | (intros; simp_all; done))); conv => whnf)
        | (refine Or.inr (And.intro rfl ?_); first | (refine congrArg intV ?_) | (refine congrArg boolV ?_) | (refine tupII ?_ ?_) | (refine tupIII ?_ ?_ ?_) | (refine tupU ?_ ?_ ?_ ?_ ?_) | exact rfl))
      · obtain ⟨e1, e2, e3', e4, e5⟩ := hg1 (kk - 1) (by omega)
        have ek : ((kk : Int) - 1).toNat = kk - 1 := by omega
        have hx : T.ff (kk - 1) + (g1 (kk - 1) : Int) = T.la (kk - 1) := by have h9 := hb.2; rw [ek] at h9; exact h9
        have e17 : IntKind.i64.wrap ((kk : Int) - 1 - 1) = ((kk - 1 : Nat) : Int) - 1 := (wr_id (by omega) (by omega)).trans (by omega)
        have hback := aft_back (u := updT T) (s := (some q)) (n := T.n) (wd := wdT T) (k := kk - 1) (g := g1) (by omega) (by omega)
        rw [show kk - 1 + 1 = kk by omega, y2] at hback
        refine ⟨(kk - 1, dset g1 (kk - 1) 0), [?_, ?_], ⟨by show kk - 1 ≤ T.n; omega, hback.symm, fun k h => (dset_0 y3 (by omega) k h), fun k h1 h2 => (dset_z y4 k h1 h2), fun k h => (dset_ne (by have h : k < kk - 1 := h; omega)).trans (y5 k (by have h : k < kk - 1 := h; omega))⟩, by show kk - 1 < kk; omega, ?_⟩
        rotate_left 2
        refine Sub.of ?_ ?_ ?_
        repeat' (first | (refine And.intro ?_ ?_) | exact trivial | exact fun _ _ _ => hsc _ _ | (exact congrArg intV (by first | with_reducible rfl | with_reducible assumption)) | exact (rfl : AV.idsLt _ _ = true) | exact (rfl : _ = AV.ren _ (.own _)) | exact (rfl : _ = AV.ren _ (.fn _ _)) | exact (rfl : _ = AV.ren _ (.gh _)) | (exact congrArg intV (by assumption)) | (refine congrArg intV ((wr_id (by omega) (by omega)).trans (by omega))) | exact rfl | (simp only [Int.toNat_natCast, Int.toNat_zero, Nat.sub_zero, Nat.zero_add]; first | exact rfl | done) | exact all0 | exact fun h => Bool.noConfusion h | exact fun _ _ _ _ => rfl | omega)
        intro a ha b hb9
        match b, hb9 with
        | 0, _ =>
          by_cases e : a = kk - 1
          · refine (if_pos (e.trans ek.symm)).trans ?_
            refine congrArg iL ?_
            show T.ff ((kk : Int) - 1).toNat = T.ff a + ((dset g1 (kk - 1) 0 a : Nat) : Int)
            rw [ek, e, dset_at]
            omega
          · refine (if_neg (by omega)).trans (congrArg iL ?_)
            show T.ff a + (g1 a : Int) = T.ff a + ((dset g1 (kk - 1) 0 a : Nat) : Int)
            rw [dset_ne e]
      · exact absurd hb (by simp)
      · obtain rfl : kk = 0 := by omega
        have y2 : some q = dfT T T.n zD none := y2
        rw [← y2] at hr
        obtain ⟨rfl, rfl, rfl, rfl⟩ : nb = T.n ∧ xb = xd T q.1 ∧ cb = q.2 ∧ eb = 0 := by simpa using hr
        refine And.intro (fun _ => ⟨is1_c _ _, is1_c _ _, by omega, rfl, fun _ _ => rfl⟩) ?_
        conv => whnf
        repeat' (first
          | (refine NilG.mk fun bn hbn hbx => ?_; conv => whnf)
          | (refine Both.mk ?_ ?_ <;> conv => whnf)
          | exact trivial
          | (refine Br.mk (fun hb => ?_) (fun hb => ?_) <;> (first | (exfalso; revert hb; decide) | ((try simp only [BL] at hb) <;> (try simp only [DL] at hb) <;> conv => whnf)))
          | (refine And.intro ?_ ?_; (focus (first | exact id | exact rfl | exact trivial | (intro hg; first | exact hg | exact rfl | (simp; done) | (simp at hg ⊢; assumption)) | omega | decide | exact is2_c _ _ _ | exact is1_c _ _ | exact isS_c _ _ | exact isB_c _ _ | exact Nat.le_refl _ | assumption | exact mulLe (by decide) (by omega) | exact mulLe2 (by decide) (by omega) (by omega) | (intros; simp only [BL] at *; omega) | (intros; (try simp only [BL] at *); (try simp only [DL] at *); omega) | (intros; simp only [BL] at *; rw [wr_id (by omega) (by omega)]; omega) | (intro h1 h2; exact Bool.and_eq_true_iff.2 ⟨h1, h2⟩) | (intros; simp_all; done))); conv => whnf)
          | (refine Or.inr (And.intro rfl ?_); first | (refine congrArg intV ?_) | (refine congrArg boolV ?_) | (refine tupII ?_ ?_) | (refine tupIII ?_ ?_ ?_) | (refine tupU ?_ ?_ ?_ ?_ ?_) | exact rfl))
        show ((0 : Int) == 0 && q.2 == q.2 && true) = true
        simp
      · rename_i hnl
        obtain ⟨e1, e2, e3', e4, e5⟩ := hg1 (kk - 1) (by omega)
        have ek : ((kk : Int) - 1).toNat = kk - 1 := by omega
        have hx : T.ff (kk - 1) + (g1 (kk - 1) : Int) ≠ T.la (kk - 1) := fun h => by
          rcases hnl with h9 | h9
          · omega
          · rw [ek] at h9; exact h9 h
        have hnx : g1 (kk - 1) + 1 < wdT T (kk - 1) := by omega
        have hnext := aft_next (u := updT T) (wd := wdT T) (fun k _ => wdT_pos hk k) (k := kk - 1) (g := g1) (s := (some q)) (by omega) hnx fun i h1 h2 => y4 i (by omega) h2
        rw [show kk - 1 + 1 = kk by omega, y2] at hnext
        have y6 := y5 (kk - 1) (by omega)
        refine ⟨(dset g1 (kk - 1) (g1 (kk - 1) + 1), (some q)), [?_, ?_], ⟨hnext.symm, fun k h => (dset_n y3 hnx k h)⟩, left_lt (fun i => wdT_le hk i) (k := kk - 1) (fun i hi => (dset_ne (by omega)).trans (y5 i (by omega))) ((dset_at _ _ _).trans (by rw [y6])) (by rw [← y6]; exact hnx) (by omega), ?_⟩
        rotate_left 2
        refine Sub.of ?_ ?_ ?_
        repeat' (first | (refine And.intro ?_ ?_) | exact trivial | exact fun _ _ _ => hsc _ _ | (exact congrArg intV (by first | with_reducible rfl | with_reducible assumption)) | exact (rfl : AV.idsLt _ _ = true) | exact (rfl : _ = AV.ren _ (.own _)) | exact (rfl : _ = AV.ren _ (.fn _ _)) | exact (rfl : _ = AV.ren _ (.gh _)) | (exact congrArg intV (by assumption)) | (refine congrArg intV ((wr_id (by omega) (by omega)).trans (by omega))) | exact rfl | (simp only [Int.toNat_natCast, Int.toNat_zero, Nat.sub_zero, Nat.zero_add]; first | exact rfl | done) | exact all0 | exact fun h => Bool.noConfusion h | exact fun _ _ _ _ => rfl | omega)
        intro a ha b hb9
        match b, hb9 with
        | 0, _ =>
          by_cases e : a = kk - 1
          · refine (if_pos (e.trans ek.symm)).trans ?_
            refine congrArg iL ?_
            show IntKind.i64.wrap (T.ff ((kk : Int) - 1).toNat + (g1 ((kk : Int) - 1).toNat : Int) + 1) = T.ff a + ((dset g1 (kk - 1) (g1 (kk - 1) + 1) a : Nat) : Int)
            rw [ek, e, dset_at]
            exact (wr_id (by omega) (by omega)).trans (by omega)
          · refine (if_neg (by omega)).trans (congrArg iL ?_)
            show T.ff a + (g1 a : Int) = T.ff a + ((dset g1 (kk - 1) (g1 (kk - 1) + 1) a : Nat) : Int)
            rw [dset_ne e]

theorem upkeepBest_own : ownKnob Try.prog.godebug = none := by kernel_rfl
theorem upkeepBest_laid : laidOutB Try.prog = true := by kernel_rfl

set_option maxRecDepth 100000 in
theorem upkeepBest_lifted (os : Os) (started : os.Started) (H : Type) (enc : TypeId × Value → H) :
    ReturnsInHanded {} Try.checked os 3 .any (Rows.upkeepBestSpec.pre6 enc Try.prog Try.f3 Rows.upkeepBestRow.domain false) (Rows.upkeepBestSpec.post enc Try.prog Try.f3 false true false false) := by
  refine returnsInHanded_of_change (C := Try.checked) upkeepBest_own started (by kernel_rfl) Try.func3
    (ChangeSpec.witness6 (enc := enc) (C := Try.checked) false ⟨#[], #[.agg #[.slice none 0 0, .slice none 0 0, .int .i64 0]], []⟩ 8 (by kernel_rfl) (by kernel_rfl) (by kernel_rfl) (by kernel_rfl)) ?_
  intro W base args ds gs before hval0 hW hcnd _
  have hval : ∀ (j : Nat) t v, Try.f3.params[j]? = some t → args[j]? = some v → Value.okWide Try.prog W .any base t v := hval0
  have hW' : DataW.Whole enc Try.prog Try.f3.params.toList Rows.upkeepBestSpec.vars false W args.toList ds gs before := hW
  exact law_post (P := Try.prog) [tyTsk] (by kernel_rfl) upkeepBest_laid (by kernel_rfl) rfl (tb := 4) rfl (by kernel_rfl) (fun ds h => by
    match ds, h with
    | [d1], _ => rfl) (fun x hx => ubLaw ⟨x.1.1.1, fun k => (x.1.1.2 k).1, fun k => (x.1.1.2 k).2.1, fun k => (x.1.1.2 k).2.2.1, fun k => (x.1.1.2 k).2.2.2.1, fun k => (x.1.1.2 k).2.2.2.2.1, x.1.2.1.1, fun k => x.1.2.1.2 k 0, fun k => x.1.2.1.2 k 1, x.1.2.2.1⟩ ⟨hx.1.1.1, hx.1.2.1.1, fun k hk => (hx.1.1.2 k hk).1⟩) W args ds gs before hval hW'

theorem upkeepBest_holds : Rows.UpkeepBestSaid :=
  OpenClaim.holds_of_wide 3 Try.f3 rfl rfl rfl rfl rfl rfl rfl ⟨rfl, rfl, rfl, rfl, rfl⟩ rfl rfl rfl rfl rfl (by kernel_rfl) Try.func3 (by kernel_rfl)
    (of_decide_eq_true (by kernel_rfl)) (by unfold Func.isWrapper; rw [if_neg (by decide +kernel)]; exact ⟨rfl, rfl⟩)
    (fun os started H enc _ => upkeepBest_lifted os started H enc)
end Go.Proofs.Ytkkkldhilofgmaa
