/-
  UnitRuns holds: unit's Run and First follow the reference period by period, whatever the input.
-/
import Derived.Test.YtogibhkbckfgbaaUnitRun
import Derived.Test.YtogibhkbckfgbaaUnitLaw
namespace Go.Proofs.Ytogibhkbckfgbaa
open Go.RowKit Go.ChangeShapes Go.WideShapes

def sRUs (P : Rul → US → Nat → (Nat → Int) → Prop) (g : Rul → US → Nat → (Nat → Int) → AV) : List AV → Sd × AV
  | [.agg [.c (.v (.string nm)), .c (.v (.int .i64 a)), .c (.v (.int .i64 b)), .c (.v (.int .i64 c)), .c (.v (.int .i64 d)), .c (.v (.int .i64 e)), .c (.v (.int .i64 f)), .c (.v (.int .i64 h))], .agg [.c (.v (.bool on)), .c (.v (.int .i64 si)), .c (.v (.int .i64 po))], .c (.sl 1 n q)] =>
    (.p (is1 n q ∧ P ⟨nm, a, b, c, d, e, f, h⟩ ⟨on, si, po⟩ n (d0 q)), g ⟨nm, a, b, c, d, e, f, h⟩ ⟨on, si, po⟩ n (d0 q))
  | _ => (.p False, .top)
theorem sRUs_ok {f : FuncId} {P} {g} (h : ∀ r u n sc, P r u n sc → Fn1 Try.prog f [rV r, vV u, .c (.sl 1 n (c1 sc))] (g r u n sc)) : ∀ args, (sRUs P g args).1.ok → (sRUs P g args).2.exact.isSome = true → Fn1 Try.prog f args (sRUs P g args).2 := fun args hs _ => by
  unfold sRUs at hs ⊢
  split at hs
  · exact (h _ _ _ _ hs.2).le (Le.cons (Le1.refl _) (Le.cons (Le1.refl _) (Le.cons (Le1.sl hs.1) Le.nil)))
  · exact hs.elim

def gamU5 : Gam := fun f => match f with
  | 29 => some fun args => match args with
    | [] => (.t, rV waitR)
    | _ => (.p False, .top)
  | 56 => some (sRUs (fun r _ _ _ => r.nm.size ≤ maxLen) fun r u n sc => .tup [intV (runI r u n sc), intV (if runE r u n sc = 0 then 8 else runE r u n sc)])
  | 30 => some (sRU (fun r _ _ _ => r.nm.size ≤ maxLen) fun r on si po => intV (staE r on si po))
  | 35 => some (sRUi (fun r on si po _ => staE r on si po = 0) nV)
  | _ => none
theorem gamU5_ok : GOk Try.prog gamU5 := fun f g h => by
  unfold gamU5 at h
  split at h
  · injection h with h; subst h
    intro args hs _
    cases args with
    | nil => exact uwait
    | cons _ _ => exact hs.elim
  · injection h with h; subst h; exact sRUs_ok uFirst
  · injection h with h; subst h; exact sRU_ok uStateError
  · injection h with h; subst h; exact sRUi_ok umoved
  · cases h

theorem runI_at {r : Rul} {u : US} {n i : Nat} {sc : Nat → Int} (h0 : okV r u) (hn : n ≤ 24) (h1 : fst (eAt r u sc) i = 0) (h2 : eAt r u sc i ≠ 0) (hi : i < n) : runI r u n sc = i := by
  unfold runI
  rw [if_neg (fun h => h h0), if_neg (by omega), ffind_at (i := i) (fun j hj => by have := fst_zero h1 j hj; simp [this]) (decide_eq_true h2) hi]
theorem runI_none {r : Rul} {u : US} {n : Nat} {sc : Nat → Int} (h : runE r u n sc = 0) : runI r u n sc = 0 := by
  unfold runE at h
  unfold runI
  split at h
  · rename_i h1; rw [if_pos h1]
  · rename_i h1
    rw [if_neg h1]
    split at h
    · cases h
    · rename_i h2
      rw [if_neg h2, ffind_none fun j hj => by have := fst_zero h j hj; simp [this]]
theorem runE_fst {r : Rul} {u : US} {n : Nat} {sc : Nat → Int} (h0 : okV r u) (hn : n ≤ 24) : runE r u n sc = fst (eAt r u sc) n := by
  unfold runE; rw [if_neg (fun h => h h0), if_neg (by omega)]

def waitS : Nat → Int := fun k => if k = 0 then 20 else 25
theorem wait_run : runE waitR ⟨false, 2, 0⟩ 2 waitS = 0 := by decide
theorem unitRunLaw (r : Rul) (u : US) (n : Nat) (sc : Nat → Int) (hs : r.nm.size ≤ maxLen) : Fn1 Try.prog 11 [rV r, vV u, .c (.sl 1 n (c1 sc))] (boolV true) := by
  refine fn_of_wpx (O := lex) tab_ok gamU5_ok mixed Try.func11 (by kernel_rfl) rfl rfl rfl (by simp [Try.ntmps11]) (by kernel_rfl) ?_
  conv => whnf
  repeat' (first
    | (refine NilG.mk fun bn hbn => ?_; conv => whnf)
    | (refine Both.mk ?_ ?_ <;> conv => whnf)
    | exact trivial
    | (refine Br.mk (fun hb => ?_) (fun hb => ?_) <;> (first | (exfalso; revert hb; decide) | ((try simp only [BL] at hb) <;> (try simp only [DL] at hb) <;> conv => whnf)))
    | (refine And.intro ?_ ?_; (focus (first | exact id | exact rfl | exact trivial | (intro hg; first | exact hg | exact rfl | (simp; done) | (simp at hg ⊢; assumption)) | omega | decide | exact is2_c _ _ _ | exact is1_c _ _ | exact isS_c _ _ | exact isB_c _ _ | exact Nat.le_refl _ | assumption | exact mulLe (by decide) (by omega) | exact mulLe2 (by decide) (by omega) (by omega) | (intros; simp only [BL] at *; omega) | (intros; (try simp only [BL] at *); (try simp only [DL] at *); omega) | (intros; simp only [BL] at *; rw [wr_id (by omega) (by omega)]; omega) | (intros; simp_all; done))); conv => whnf)
    | (refine Or.inr (And.intro rfl ?_); first | (refine congrArg intV ?_) | (refine congrArg boolV ?_) | (refine tupII ?_ ?_) | (refine tupIII ?_ ?_ ?_) | (refine tupU ?_ ?_ ?_ ?_ ?_)))
  refine CallG.mk (Fn.mono ((uRun waitR ⟨false, 2, 0⟩ 2 waitS (by decide)).le (Le.cons (Le1.refl _) (Le.cons (Le1.refl _) (Le.cons (Le1.sl fun k hk j hj => ?_) Le.nil)))) ?_)
  · match k, j, hk, hj with
    | 0, 0, _, _ => rfl
    | 1, 0, _, _ => rfl
  rintro obs x ⟨rfl, hx⟩
  rcases hx with ⟨h0, _⟩ | ⟨_, rfl⟩
  · exact absurd wait_run h0
  conv => whnf
  repeat' (first
    | (refine NilG.mk fun bn hbn => ?_; conv => whnf)
    | (refine Both.mk ?_ ?_ <;> conv => whnf)
    | exact trivial
    | (refine Br.mk (fun hb => ?_) (fun hb => ?_) <;> (first | (exfalso; revert hb; decide) | ((try simp only [BL] at hb) <;> (try simp only [DL] at hb) <;> conv => whnf)))
    | (refine And.intro ?_ ?_; (focus (first | exact id | exact rfl | exact trivial | (intro hg; first | exact hg | exact rfl | (simp; done) | (simp at hg ⊢; assumption)) | omega | decide | exact is2_c _ _ _ | exact is1_c _ _ | exact isS_c _ _ | exact isB_c _ _ | exact Nat.le_refl _ | assumption | exact mulLe (by decide) (by omega) | exact mulLe2 (by decide) (by omega) (by omega) | (intros; simp only [BL] at *; omega) | (intros; (try simp only [BL] at *); (try simp only [DL] at *); omega) | (intros; simp only [BL] at *; rw [wr_id (by omega) (by omega)]; omega) | (intros; simp_all; done))); conv => whnf)
    | (refine Or.inr (And.intro rfl ?_); first | (refine congrArg intV ?_) | (refine congrArg boolV ?_) | (refine tupII ?_ ?_) | (refine tupIII ?_ ?_ ?_) | (refine tupU ?_ ?_ ?_ ?_ ?_)))
  refine CallG.mk (Fn.mono (uRun r u n sc hs) ?_)
  rintro obs x ⟨rfl, hx⟩
  rcases hx with ⟨hE, rfl⟩ | ⟨hE, rfl⟩
  · conv => whnf
    repeat' (first
      | (refine NilG.mk fun bn hbn => ?_; conv => whnf)
      | (refine Both.mk ?_ ?_ <;> conv => whnf)
      | exact trivial
      | (refine Br.mk (fun hb => ?_) (fun hb => ?_) <;> (first | (exfalso; revert hb; decide) | ((try simp only [BL] at hb) <;> (try simp only [DL] at hb) <;> conv => whnf)))
      | (refine And.intro ?_ ?_; (focus (first | exact id | exact rfl | exact trivial | (intro hg; first | exact hg | exact rfl | (simp; done) | (simp at hg ⊢; assumption)) | omega | decide | exact is2_c _ _ _ | exact is1_c _ _ | exact isS_c _ _ | exact isB_c _ _ | exact Nat.le_refl _ | assumption | exact mulLe (by decide) (by omega) | exact mulLe2 (by decide) (by omega) (by omega) | (intros; simp only [BL] at *; omega) | (intros; (try simp only [BL] at *); (try simp only [DL] at *); omega) | (intros; simp only [BL] at *; rw [wr_id (by omega) (by omega)]; omega) | (intros; simp_all; done) | first | exact hs | exact ⟨is1_c _ _, hs⟩)); conv => whnf)
      | (refine Or.inr (And.intro rfl ?_); first | (refine congrArg intV ?_) | (refine congrArg boolV ?_) | (refine tupII ?_ ?_) | (refine tupIII ?_ ?_ ?_) | (refine tupU ?_ ?_ ?_ ?_ ?_)))
    · rename_i hq
      have h0 : staE r u.on u.si u.po = 0 := hq.1
      have hR : runE r u n sc = 2 := by unfold runE; rw [if_neg (fun h => h h0), if_pos (by omega)]
      have hI : runI r u n sc = 0 := by unfold runI; rw [if_neg (fun h => h h0), if_pos (by omega)]
      have e14 : (if runE r u n sc = 0 then 8 else runE r u n sc) = 2 := by rw [hR]; rfl
      show (runE r u n sc == 2 && (if runE r u n sc = 0 then 8 else runE r u n sc) == 2 && _ && _ && runI r u n sc == 0) = true
      rw [e14, hR, hI]
      rfl
    · have h0 : staE r u.on u.si u.po ≠ 0 := hb
      have hR : runE r u n sc = staE r u.on u.si u.po := if_pos h0
      have hI : runI r u n sc = 0 := if_pos h0
      have e14 : (if runE r u n sc = 0 then 8 else runE r u n sc) = staE r u.on u.si u.po := by rw [hR, if_neg h0]
      show (runE r u n sc == staE r u.on u.si u.po && (if runE r u n sc = 0 then 8 else runE r u n sc) == staE r u.on u.si u.po && _ && _ && runI r u n sc == 0) = true
      rw [e14, hR, hI]
      simp
    rename_i hq
    have h0 : okV r u := hb
    have hn : n ≤ 24 := by rcases hq with hq | hq <;> first | exact absurd h0 hq | omega
    have hF := runE_fst (sc := sc) h0 hn
    have e14 : (if runE r u n sc = 0 then 8 else runE r u n sc) = runE r u n sc := if_neg hE
    clear hq hb
    refine sem_loop tab_ok gamU5_ok mixed (by kernel_rfl) (O := lex) (fun k : Nat => ⟨[(98, intV k), (97, intV n), (96, .c (.sl 1 n (c1 sc))), (16, intV (S (cAt r u sc) k)), (10, .c (.sl 3 0 (cU fun k => stt r u sc (k + 1)))), (11, intV 0), (12, intV (runE r u n sc)), (13, intV (runI r u n sc)), (14, intV (runE r u n sc)), (2, .c (.sl 1 n (c1 sc))), (3, .lp 0 0), (4, .lp 1 0)], [.box [strV r.nm, intV r.le, intV r.mo, intV r.up, intV r.dn, intV r.mi, intV r.mf, intV r.st], .box [boolV (stt r u sc k).on, intV (stt r u sc k).si, intV (stt r u sc k).po]]⟩) (fun k => k ≤ n ∧ fst (eAt r u sc) k = 0) (fun k => n - k) ⟨0, [?_, ?_], ⟨Nat.zero_le _, rfl⟩, ?_⟩ fun k hk => ?_
    rotate_left 2
    · refine Sub.of ?_ ?_ ?_
      repeat' (first | (refine And.intro ?_ ?_) | exact trivial | (exact congrArg intV (by assumption)) | (refine congrArg intV ((wr_id (by omega) (by omega)).trans (by omega))) | exact rfl | (simp only [Int.toNat_natCast, Int.toNat_zero, Nat.sub_zero, Nat.zero_add]; first | exact rfl | done) | exact all0 | exact fun h => Bool.noConfusion h)
    have hok := stt_ok h0 k hk.2
    have hS := S_le (p := cAt r u sc) (a := 0) (b := 1000000) (k := k) fun j hj => cAt_le (stt_ok h0 j (fst_of fun q hq => fst_zero hk.2 q (by omega)))
    have hc := cAt_le hok
    conv => whnf
    repeat' (first
      | (refine NilG.mk fun bn hbn => ?_; conv => whnf)
      | (refine Both.mk ?_ ?_ <;> conv => whnf)
      | exact trivial
      | (refine Br.mk (fun hb => ?_) (fun hb => ?_) <;> (first | (exfalso; revert hb; decide) | ((try simp only [BL] at hb) <;> (try simp only [DL] at hb) <;> conv => whnf)))
      | (refine And.intro ?_ ?_; (focus (first | exact id | exact rfl | exact trivial | (intro hg; first | exact hg | exact rfl | (simp; done) | (simp at hg ⊢; assumption)) | omega | decide | exact is2_c _ _ _ | exact is1_c _ _ | exact isS_c _ _ | exact isB_c _ _ | exact Nat.le_refl _ | assumption | exact mulLe (by decide) (by omega) | exact mulLe2 (by decide) (by omega) (by omega) | (intros; simp only [BL] at *; omega) | (intros; (try simp only [BL] at *); (try simp only [DL] at *); omega) | (intros; simp only [BL] at *; rw [wr_id (by omega) (by omega)]; omega) | (intros; simp_all; done) | exact hok)); conv => whnf)
      | (refine Or.inr (And.intro rfl ?_); first | (refine congrArg intV ?_) | (refine congrArg boolV ?_) | (refine tupII ?_ ?_) | (refine tupIII ?_ ?_ ?_) | (refine tupU ?_ ?_ ?_ ?_ ?_)))
    · have he : eAt r u sc k ≠ 0 := hb
      have h1 : runE r u n sc = eAt r u sc k := by rw [hF, fst_at hk.2 he (by omega)]
      have h2 : runI r u n sc = k := runI_at h0 hn hk.2 he (by omega)
      show (runE r u n sc == eAt r u sc k && runE r u n sc == eAt r u sc k && runI r u n sc == k && _ && _) = true
      rw [h1, h2]
      simp
    · exact absurd hb.1 hE
    · have e1 : IntKind.i64.wrap (S (cAt r u sc) k + cAt r u sc k) = S (cAt r u sc) (k + 1) := wr_id (by omega) (by omega)
      rename_i hz
      have he : eAt r u sc k = 0 := hz
      refine ⟨k + 1, [?_, ?_], ⟨by omega, fst_next hk.2 he⟩, by omega, ?_⟩
      rotate_left 2
      refine Sub.of ?_ ?_ ?_
      repeat' (first | (refine And.intro ?_ ?_) | exact trivial | (exact congrArg intV (by assumption)) | (refine congrArg intV ((wr_id (by omega) (by omega)).trans (by omega))) | exact rfl | (simp only [Int.toNat_natCast, Int.toNat_zero, Nat.sub_zero, Nat.zero_add]; first | exact rfl | done) | exact all0 | exact fun h => Bool.noConfusion h)
    · obtain rfl : k = n := by omega
      exact absurd (hF.trans hk.2) hE
  · conv => whnf
    repeat' (first
      | (refine NilG.mk fun bn hbn => ?_; conv => whnf)
      | (refine Both.mk ?_ ?_ <;> conv => whnf)
      | exact trivial
      | (refine Br.mk (fun hb => ?_) (fun hb => ?_) <;> (first | (exfalso; revert hb; decide) | ((try simp only [BL] at hb) <;> (try simp only [DL] at hb) <;> conv => whnf)))
      | (refine And.intro ?_ ?_; (focus (first | exact id | exact rfl | exact trivial | (intro hg; first | exact hg | exact rfl | (simp; done) | (simp at hg ⊢; assumption)) | omega | decide | exact is2_c _ _ _ | exact is1_c _ _ | exact isS_c _ _ | exact isB_c _ _ | exact Nat.le_refl _ | assumption | exact mulLe (by decide) (by omega) | exact mulLe2 (by decide) (by omega) (by omega) | (intros; simp only [BL] at *; omega) | (intros; (try simp only [BL] at *); (try simp only [DL] at *); omega) | (intros; simp only [BL] at *; rw [wr_id (by omega) (by omega)]; omega) | (intros; simp_all; done) | first | exact hs | exact ⟨is1_c _ _, hs⟩)); conv => whnf)
      | (refine Or.inr (And.intro rfl ?_); first | (refine congrArg intV ?_) | (refine congrArg boolV ?_) | (refine tupII ?_ ?_) | (refine tupIII ?_ ?_ ?_) | (refine tupU ?_ ?_ ?_ ?_ ?_)))
    · rename_i hq
      have h0 : staE r u.on u.si u.po = 0 := hq.1
      have hR : runE r u n sc = 2 := by unfold runE; rw [if_neg (fun h => h h0), if_pos (by omega)]
      rw [hR] at hE; cases hE
    · have h0 : staE r u.on u.si u.po ≠ 0 := hb
      have hR : runE r u n sc = staE r u.on u.si u.po := if_pos h0
      exact absurd (hR.symm.trans hE) h0
    rename_i hq
    have h0 : okV r u := hb
    have hn : n ≤ 24 := by rcases hq with hq | hq <;> first | exact absurd h0 hq | omega
    have hF := runE_fst (sc := sc) h0 hn
    have e14 : (if runE r u n sc = 0 then 8 else runE r u n sc) = 8 := if_pos hE
    clear hq hb
    refine sem_loop tab_ok gamU5_ok mixed (by kernel_rfl) (O := lex) (fun k : Nat => ⟨[(98, intV k), (97, intV n), (96, .c (.sl 1 n (c1 sc))), (16, intV (S (cAt r u sc) k)), (10, .c (.sl 3 n (cU fun k => stt r u sc (k + 1)))), (11, intV (S (cAt r u sc) n)), (12, intV 0), (13, intV (runI r u n sc)), (14, intV 8), (2, .c (.sl 1 n (c1 sc))), (3, .lp 0 0), (4, .lp 1 0)], [.box [strV r.nm, intV r.le, intV r.mo, intV r.up, intV r.dn, intV r.mi, intV r.mf, intV r.st], .box [boolV (stt r u sc k).on, intV (stt r u sc k).si, intV (stt r u sc k).po]]⟩) (fun k => k ≤ n ∧ fst (eAt r u sc) k = 0) (fun k => n - k) ⟨0, [?_, ?_], ⟨Nat.zero_le _, rfl⟩, ?_⟩ fun k hk => ?_
    rotate_left 2
    · refine Sub.of ?_ ?_ ?_
      repeat' (first | (refine And.intro ?_ ?_) | exact trivial | (exact congrArg intV (by assumption)) | (refine congrArg intV ((wr_id (by omega) (by omega)).trans (by omega))) | exact rfl | (simp only [Int.toNat_natCast, Int.toNat_zero, Nat.sub_zero, Nat.zero_add]; first | exact rfl | done) | exact all0 | exact fun h => Bool.noConfusion h)
    have hok := stt_ok h0 k hk.2
    have hS := S_le (p := cAt r u sc) (a := 0) (b := 1000000) (k := k) fun j hj => cAt_le (stt_ok h0 j (fst_of fun q hq => fst_zero hk.2 q (by omega)))
    have hc := cAt_le hok
    conv => whnf
    repeat' (first
      | (refine NilG.mk fun bn hbn => ?_; conv => whnf)
      | (refine Both.mk ?_ ?_ <;> conv => whnf)
      | exact trivial
      | (refine Br.mk (fun hb => ?_) (fun hb => ?_) <;> (first | (exfalso; revert hb; decide) | ((try simp only [BL] at hb) <;> (try simp only [DL] at hb) <;> conv => whnf)))
      | (refine And.intro ?_ ?_; (focus (first | exact id | exact rfl | exact trivial | (intro hg; first | exact hg | exact rfl | (simp; done) | (simp at hg ⊢; assumption)) | omega | decide | exact is2_c _ _ _ | exact is1_c _ _ | exact isS_c _ _ | exact isB_c _ _ | exact Nat.le_refl _ | assumption | exact mulLe (by decide) (by omega) | exact mulLe2 (by decide) (by omega) (by omega) | (intros; simp only [BL] at *; omega) | (intros; (try simp only [BL] at *); (try simp only [DL] at *); omega) | (intros; simp only [BL] at *; rw [wr_id (by omega) (by omega)]; omega) | (intros; simp_all; done) | exact hok)); conv => whnf)
      | (refine Or.inr (And.intro rfl ?_); first | (refine congrArg intV ?_) | (refine congrArg boolV ?_) | (refine tupII ?_ ?_) | (refine tupIII ?_ ?_ ?_) | (refine tupU ?_ ?_ ?_ ?_ ?_)))
    · have he : eAt r u sc k ≠ 0 := hb
      have h1 : runE r u n sc = eAt r u sc k := by rw [hF, fst_at hk.2 he (by omega)]
      exact absurd (h1.symm.trans hE) he
    · exfalso
      rcases hb.2 with h | h | h | h | h
      · omega
      · exact h rfl
      · exact h rfl
      · exact h rfl
      · cases h
    · have e1 : IntKind.i64.wrap (S (cAt r u sc) k + cAt r u sc k) = S (cAt r u sc) (k + 1) := wr_id (by omega) (by omega)
      rename_i hz
      have he : eAt r u sc k = 0 := hz
      refine ⟨k + 1, [?_, ?_], ⟨by omega, fst_next hk.2 he⟩, by omega, ?_⟩
      rotate_left 2
      refine Sub.of ?_ ?_ ?_
      repeat' (first | (refine And.intro ?_ ?_) | exact trivial | (exact congrArg intV (by assumption)) | (refine congrArg intV ((wr_id (by omega) (by omega)).trans (by omega))) | exact rfl | (simp only [Int.toNat_natCast, Int.toNat_zero, Nat.sub_zero, Nat.zero_add]; first | exact rfl | done) | exact all0 | exact fun h => Bool.noConfusion h)
    · obtain rfl : k = n := by omega
      rw [runI_none hE]
      simp

theorem unitRuns_own : ownKnob Try.prog.godebug = none := by kernel_rfl
theorem unitRuns_laid : laidOutB Try.prog = true := by kernel_rfl

set_option maxRecDepth 100000 in
theorem unitRuns_lifted (os : Os) (started : os.Started) (H : Type) (enc : TypeId × Value → H) :
    ReturnsInHanded {} Try.checked os 11 .any (Rows.unitRunsSpec.pre6 enc Try.prog Try.f11 Rows.unitRunsRow.domain false) (Rows.unitRunsSpec.post enc Try.prog Try.f11 false true false false) := by
  refine returnsInHanded_of_change (C := Try.checked) unitRuns_own started (by kernel_rfl) Try.func11
    (ChangeSpec.witness6 (enc := enc) (C := Try.checked) false ⟨#[], #[.agg #[.string ByteArray.empty, .int .i64 0, .int .i64 0, .int .i64 0, .int .i64 0, .int .i64 0, .int .i64 0, .int .i64 0], .agg #[.bool false, .int .i64 0, .int .i64 0], .slice none 0 0], []⟩ 8 (by kernel_rfl) (by kernel_rfl) (by kernel_rfl) (by kernel_rfl)) ?_
  intro W base args ds gs before hval0 hW hcnd _
  have hval : ∀ (j : Nat) t v, Try.f11.params[j]? = some t → args[j]? = some v → Value.okWide Try.prog W .any base t v := hval0
  have hW' : DataW.Whole enc Try.prog Try.f11.params.toList Rows.unitRunsSpec.vars false W args.toList ds gs before := hW
  exact law_post (P := Try.prog) [tyRule, tyState, .sl (.i .i64)] (by kernel_rfl) unitRuns_laid (by kernel_rfl) rfl (tb := 4) rfl (by kernel_rfl) (fun ds h => by
    match ds, h with
    | [d1, d2, d3], _ => rfl) (fun x hx => unitRunLaw ⟨x.1.1, x.1.2.1, x.1.2.2.1, x.1.2.2.2.1, x.1.2.2.2.2.1, x.1.2.2.2.2.2.1, x.1.2.2.2.2.2.2.1, x.1.2.2.2.2.2.2.2.1⟩ ⟨x.2.1.1, x.2.1.2.1, x.2.1.2.2.1⟩ x.2.2.1.1 x.2.2.1.2 hx.1.1) W args ds gs before hval hW'

theorem unitRuns_holds : Rows.UnitRunsSaid :=
  OpenClaim.holds_of_wide 11 Try.f11 rfl rfl rfl rfl rfl rfl rfl ⟨rfl, rfl, rfl, rfl, rfl⟩ rfl rfl rfl rfl rfl (by kernel_rfl) Try.func11 (by kernel_rfl)
    (of_decide_eq_true (by kernel_rfl)) (by unfold Func.isWrapper; rw [if_neg (by decide +kernel)]; exact ⟨rfl, rfl⟩)
    (fun os started H enc _ => unitRuns_lifted os started H enc)
end Go.Proofs.Ytogibhkbckfgbaa
