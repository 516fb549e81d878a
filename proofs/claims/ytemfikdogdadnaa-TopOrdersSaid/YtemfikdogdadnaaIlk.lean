/-
  The package interlock: conditions, their errors and values; and the reference's forms of these.
-/
import Derived.Test.YtemfikdogdadnaaIlkP
namespace Go.Proofs.Ytemfikdogdadnaa
open Go.RowKit

def cN (c : Cnd) : Nat → Nat → L := fun k j => [iL (c.kd k), sL (c.nm k), iL (c.a k), iL (c.b k)].getD j .un
abbrev cV (c : Cnd) : AV := .c (.sl 4 c.n (cN c))

def gamI1 : Gam := fun f => match f with
  | 38 => some (s1S (fun s => s.size ≤ maxLen) nameB)
  | 58 => some (s1S (fun s => s.size ≤ maxLen) nameB)
  | _ => none
theorem gamI1_ok : GOk Try.prog gamI1 := fun f g h => by
  unfold gamI1 at h
  split at h
  · injection h with h; subst h; exact s1S_ok name1
  · injection h with h; subst h; exact s1S_ok named4
  · cases h

/-- span of a node, when it is known of the nodes before it -/
theorem span0 (c : Cnd) (hn : c.n ≤ 1000000) (k : Int) (hk : k < c.n) (ih : 0 ≤ k → ∀ j, j < k → Fn1 Try.prog 93 [cV c, intV j] (intV (sp c j))) : Fn1 Try.prog 93 [cV c, intV k] (intV (sp c k)) := by
  refine fn_of_wpx (O := lex) tab_ok gamI1_ok mixed Try.func93 (by kernel_rfl) rfl rfl rfl (by simp [Try.ntmps93]) (by kernel_rfl) ?_
  have hw : 0 ≤ k → IntKind.i64.wrap (k - 1) = k - 1 := fun h => wr_id (by omega) (by omega)
  have he : 0 ≤ k → sp c k = if c.kd k.toNat = 4 then (if c.a k.toNat ≠ k - 1 then -1 else sp c (c.a k.toNat)) else if c.kd k.toNat = 5 ∨ c.kd k.toNat = 6 then (if c.b k.toNat ≠ k - 1 then -1 else if sp c (c.b k.toNat) < 1 ∨ c.a k.toNat ≠ sp c (c.b k.toNat) - 1 then -1 else sp c (c.a k.toNat)) else k := fun h => by
    have := sp_eq c k.toNat
    rwa [Int.toNat_of_nonneg h] at this
  conv => whnf
  repeat' (first
    | (refine NilG.mk fun bn hbn hbx => ?_; conv => whnf)
    | (refine Both.mk ?_ ?_ <;> conv => whnf)
    | ((first | (refine MkG.box 1 rfl rfl rfl (by decide) ?_) | (refine MkG.box 2 rfl rfl rfl (by decide) ?_) | (refine MkG.box 3 rfl rfl rfl (by decide) ?_) | (refine MkG.row ?_)); conv => whnf)
    | exact trivial
    | (refine Br.mk (fun hb => ?_) (fun hb => ?_) <;> (first | (exfalso; revert hb; decide) | ((try simp only [BL] at hb) <;> (try simp only [DL] at hb) <;> conv => whnf)))
    | (refine And.intro ?_ ?_; (focus (first | exact id | exact rfl | exact trivial | (intro hg; first | exact hg | exact rfl | (simp; done) | (simp at hg ⊢; assumption)) | omega | decide | exact is2_c _ _ _ | exact is1_c _ _ | exact isS_c _ _ | exact isB_c _ _ | exact Nat.le_refl _ | assumption | exact mulLe (by decide) (by omega) | exact mulLe2 (by decide) (by omega) (by omega) | (intros; simp only [BL] at *; omega) | (intros; (try simp only [BL] at *); (try simp only [DL] at *); omega) | (intros; simp only [BL] at *; rw [wr_id (by omega) (by omega)]; omega) | (intro h1 h2; exact Bool.and_eq_true_iff.2 ⟨h1, h2⟩) | (intros; simp_all; done))); conv => whnf)
    | (refine Or.inr (And.intro rfl ?_); first | (refine congrArg intV ?_) | (refine congrArg boolV ?_) | (refine tupII ?_ ?_) | (refine tupIII ?_ ?_ ?_) | (refine tupU ?_ ?_ ?_ ?_ ?_) | exact rfl))
  · exact (sp_neg c hb).symm
  · rename_i h0 h4
    rw [hw (by omega)] at hb
    rw [he (by omega), if_pos h4, if_pos hb]
  · rename_i h0 h4
    rw [hw (by omega)] at hb
    refine CallG.mk (Fn.mono (ih (by omega) _ (by omega)) ?_)
    rintro obs r ⟨rfl, rfl⟩
    conv => whnf
    repeat' (first
      | (refine NilG.mk fun bn hbn hbx => ?_; conv => whnf)
      | (refine Both.mk ?_ ?_ <;> conv => whnf)
      | ((first | (refine MkG.box 1 rfl rfl rfl (by decide) ?_) | (refine MkG.box 2 rfl rfl rfl (by decide) ?_) | (refine MkG.box 3 rfl rfl rfl (by decide) ?_) | (refine MkG.row ?_)); conv => whnf)
      | exact trivial
      | (refine Br.mk (fun hb => ?_) (fun hb => ?_) <;> (first | (exfalso; revert hb; decide) | ((try simp only [BL] at hb) <;> (try simp only [DL] at hb) <;> conv => whnf)))
      | (refine And.intro ?_ ?_; (focus (first | exact id | exact rfl | exact trivial | (intro hg; first | exact hg | exact rfl | (simp; done) | (simp at hg ⊢; assumption)) | omega | decide | exact is2_c _ _ _ | exact is1_c _ _ | exact isS_c _ _ | exact isB_c _ _ | exact Nat.le_refl _ | assumption | exact mulLe (by decide) (by omega) | exact mulLe2 (by decide) (by omega) (by omega) | (intros; simp only [BL] at *; omega) | (intros; (try simp only [BL] at *); (try simp only [DL] at *); omega) | (intros; simp only [BL] at *; rw [wr_id (by omega) (by omega)]; omega) | (intro h1 h2; exact Bool.and_eq_true_iff.2 ⟨h1, h2⟩) | (intros; simp_all; done))); conv => whnf)
      | (refine Or.inr (And.intro rfl ?_); first | (refine congrArg intV ?_) | (refine congrArg boolV ?_) | (refine tupII ?_ ?_) | (refine tupIII ?_ ?_ ?_) | (refine tupU ?_ ?_ ?_ ?_ ?_) | exact rfl))
    · rw [he (by omega), if_pos h4, if_neg (fun h => h hb)]
  · rw [hw (by omega)] at hb
    rw [he (by omega), if_neg (by omega), if_pos (by omega), if_pos hb]
  · rw [hw (by omega)] at hb
    have hbb := hb
    clear hb
    have hle : -1 ≤ sp c (c.b k.toNat) ∧ sp c (c.b k.toNat) ≤ k - 1 := by
      rw [hbb]
      by_cases hh : k - 1 < 0
      · rw [sp_neg c hh]; omega
      · exact sp_le c (by omega)
    refine CallG.mk (Fn.mono (ih (by omega) _ (by omega)) ?_)
    rintro obs r ⟨rfl, rfl⟩
    have hw2 : IntKind.i64.wrap (sp c (c.b k.toNat) - 1) = sp c (c.b k.toNat) - 1 := wr_id (by omega) (by omega)
    conv => whnf
    repeat' (first
      | (refine NilG.mk fun bn hbn hbx => ?_; conv => whnf)
      | (refine Both.mk ?_ ?_ <;> conv => whnf)
      | ((first | (refine MkG.box 1 rfl rfl rfl (by decide) ?_) | (refine MkG.box 2 rfl rfl rfl (by decide) ?_) | (refine MkG.box 3 rfl rfl rfl (by decide) ?_) | (refine MkG.row ?_)); conv => whnf)
      | exact trivial
      | (refine Br.mk (fun hb => ?_) (fun hb => ?_) <;> (first | (exfalso; revert hb; decide) | ((try simp only [BL] at hb) <;> (try simp only [DL] at hb) <;> conv => whnf)))
      | (refine And.intro ?_ ?_; (focus (first | exact id | exact rfl | exact trivial | (intro hg; first | exact hg | exact rfl | (simp; done) | (simp at hg ⊢; assumption)) | omega | decide | exact is2_c _ _ _ | exact is1_c _ _ | exact isS_c _ _ | exact isB_c _ _ | exact Nat.le_refl _ | assumption | exact mulLe (by decide) (by omega) | exact mulLe2 (by decide) (by omega) (by omega) | (intros; simp only [BL] at *; omega) | (intros; (try simp only [BL] at *); (try simp only [DL] at *); omega) | (intros; simp only [BL] at *; rw [wr_id (by omega) (by omega)]; omega) | (intro h1 h2; exact Bool.and_eq_true_iff.2 ⟨h1, h2⟩) | (intros; simp_all; done))); conv => whnf)
      | (refine Or.inr (And.intro rfl ?_); first | (refine congrArg intV ?_) | (refine congrArg boolV ?_) | (refine tupII ?_ ?_) | (refine tupIII ?_ ?_ ?_) | (refine tupU ?_ ?_ ?_ ?_ ?_) | exact rfl))
    · rw [hw2] at hb
      rw [he (by omega), if_neg (by omega), if_pos (by omega), if_neg (fun h => h hbb), if_pos hb]
    · rw [hw2] at hb
      refine CallG.mk (Fn.mono (ih (by omega) _ (by omega)) ?_)
      rintro obs r ⟨rfl, rfl⟩
      conv => whnf
      repeat' (first
        | (refine NilG.mk fun bn hbn hbx => ?_; conv => whnf)
        | (refine Both.mk ?_ ?_ <;> conv => whnf)
        | ((first | (refine MkG.box 1 rfl rfl rfl (by decide) ?_) | (refine MkG.box 2 rfl rfl rfl (by decide) ?_) | (refine MkG.box 3 rfl rfl rfl (by decide) ?_) | (refine MkG.row ?_)); conv => whnf)
        | exact trivial
        | (refine Br.mk (fun hb => ?_) (fun hb => ?_) <;> (first | (exfalso; revert hb; decide) | ((try simp only [BL] at hb) <;> (try simp only [DL] at hb) <;> conv => whnf)))
        | (refine And.intro ?_ ?_; (focus (first | exact id | exact rfl | exact trivial | (intro hg; first | exact hg | exact rfl | (simp; done) | (simp at hg ⊢; assumption)) | omega | decide | exact is2_c _ _ _ | exact is1_c _ _ | exact isS_c _ _ | exact isB_c _ _ | exact Nat.le_refl _ | assumption | exact mulLe (by decide) (by omega) | exact mulLe2 (by decide) (by omega) (by omega) | (intros; simp only [BL] at *; omega) | (intros; (try simp only [BL] at *); (try simp only [DL] at *); omega) | (intros; simp only [BL] at *; rw [wr_id (by omega) (by omega)]; omega) | (intro h1 h2; exact Bool.and_eq_true_iff.2 ⟨h1, h2⟩) | (intros; simp_all; done))); conv => whnf)
        | (refine Or.inr (And.intro rfl ?_); first | (refine congrArg intV ?_) | (refine congrArg boolV ?_) | (refine tupII ?_ ?_) | (refine tupIII ?_ ?_ ?_) | (refine tupU ?_ ?_ ?_ ?_ ?_) | exact rfl))
      · rw [he (by omega), if_neg (by omega), if_pos (by omega), if_neg (fun h => h hbb), if_neg (by omega)]
  · omega
  · rw [hw (by omega)] at hb
    rw [he (by omega), if_neg (by omega), if_pos (by omega), if_pos hb]
  · rw [hw (by omega)] at hb
    have hbb := hb
    clear hb
    have hle : -1 ≤ sp c (c.b k.toNat) ∧ sp c (c.b k.toNat) ≤ k - 1 := by
      rw [hbb]
      by_cases hh : k - 1 < 0
      · rw [sp_neg c hh]; omega
      · exact sp_le c (by omega)
    refine CallG.mk (Fn.mono (ih (by omega) _ (by omega)) ?_)
    rintro obs r ⟨rfl, rfl⟩
    have hw2 : IntKind.i64.wrap (sp c (c.b k.toNat) - 1) = sp c (c.b k.toNat) - 1 := wr_id (by omega) (by omega)
    conv => whnf
    repeat' (first
      | (refine NilG.mk fun bn hbn hbx => ?_; conv => whnf)
      | (refine Both.mk ?_ ?_ <;> conv => whnf)
      | ((first | (refine MkG.box 1 rfl rfl rfl (by decide) ?_) | (refine MkG.box 2 rfl rfl rfl (by decide) ?_) | (refine MkG.box 3 rfl rfl rfl (by decide) ?_) | (refine MkG.row ?_)); conv => whnf)
      | exact trivial
      | (refine Br.mk (fun hb => ?_) (fun hb => ?_) <;> (first | (exfalso; revert hb; decide) | ((try simp only [BL] at hb) <;> (try simp only [DL] at hb) <;> conv => whnf)))
      | (refine And.intro ?_ ?_; (focus (first | exact id | exact rfl | exact trivial | (intro hg; first | exact hg | exact rfl | (simp; done) | (simp at hg ⊢; assumption)) | omega | decide | exact is2_c _ _ _ | exact is1_c _ _ | exact isS_c _ _ | exact isB_c _ _ | exact Nat.le_refl _ | assumption | exact mulLe (by decide) (by omega) | exact mulLe2 (by decide) (by omega) (by omega) | (intros; simp only [BL] at *; omega) | (intros; (try simp only [BL] at *); (try simp only [DL] at *); omega) | (intros; simp only [BL] at *; rw [wr_id (by omega) (by omega)]; omega) | (intro h1 h2; exact Bool.and_eq_true_iff.2 ⟨h1, h2⟩) | (intros; simp_all; done))); conv => whnf)
      | (refine Or.inr (And.intro rfl ?_); first | (refine congrArg intV ?_) | (refine congrArg boolV ?_) | (refine tupII ?_ ?_) | (refine tupIII ?_ ?_ ?_) | (refine tupU ?_ ?_ ?_ ?_ ?_) | exact rfl))
    · rw [hw2] at hb
      rw [he (by omega), if_neg (by omega), if_pos (by omega), if_neg (fun h => h hbb), if_pos hb]
    · rw [hw2] at hb
      refine CallG.mk (Fn.mono (ih (by omega) _ (by omega)) ?_)
      rintro obs r ⟨rfl, rfl⟩
      conv => whnf
      repeat' (first
        | (refine NilG.mk fun bn hbn hbx => ?_; conv => whnf)
        | (refine Both.mk ?_ ?_ <;> conv => whnf)
        | ((first | (refine MkG.box 1 rfl rfl rfl (by decide) ?_) | (refine MkG.box 2 rfl rfl rfl (by decide) ?_) | (refine MkG.box 3 rfl rfl rfl (by decide) ?_) | (refine MkG.row ?_)); conv => whnf)
        | exact trivial
        | (refine Br.mk (fun hb => ?_) (fun hb => ?_) <;> (first | (exfalso; revert hb; decide) | ((try simp only [BL] at hb) <;> (try simp only [DL] at hb) <;> conv => whnf)))
        | (refine And.intro ?_ ?_; (focus (first | exact id | exact rfl | exact trivial | (intro hg; first | exact hg | exact rfl | (simp; done) | (simp at hg ⊢; assumption)) | omega | decide | exact is2_c _ _ _ | exact is1_c _ _ | exact isS_c _ _ | exact isB_c _ _ | exact Nat.le_refl _ | assumption | exact mulLe (by decide) (by omega) | exact mulLe2 (by decide) (by omega) (by omega) | (intros; simp only [BL] at *; omega) | (intros; (try simp only [BL] at *); (try simp only [DL] at *); omega) | (intros; simp only [BL] at *; rw [wr_id (by omega) (by omega)]; omega) | (intro h1 h2; exact Bool.and_eq_true_iff.2 ⟨h1, h2⟩) | (intros; simp_all; done))); conv => whnf)
        | (refine Or.inr (And.intro rfl ?_); first | (refine congrArg intV ?_) | (refine congrArg boolV ?_) | (refine tupII ?_ ?_) | (refine tupIII ?_ ?_ ?_) | (refine tupU ?_ ?_ ?_ ?_ ?_) | exact rfl))
      · rw [he (by omega), if_neg (by omega), if_pos (by omega), if_neg (fun h => h hbb), if_neg (by omega)]
  · rw [he (by omega), if_neg (by omega), if_neg (by omega)]
theorem span4 (c : Cnd) (hn : c.n ≤ 1000000) (k : Int) (hk : k < c.n) : Fn1 Try.prog 93 [cV c, intV k] (intV (sp c k)) := by
  have key : ∀ (d : Nat) (k : Int), k < d → k < c.n → Fn1 Try.prog 93 [cV c, intV k] (intV (sp c k)) := fun d => by
    induction d with
    | zero => exact fun k hd hk => span0 c hn k hk fun h => by omega
    | succ d ihd => exact fun k hd hk => span0 c hn k hk fun _ j hj => ihd j (by omega) (by omega)
  exact key (k.toNat + 1) k (by omega) hk

def cOf (n : Nat) (f : Nat → Nat → L) : Cnd := ⟨n, d0 f, fun k => (f k 1).toS, fun k => (f k 2).toI, fun k => (f k 3).toI⟩
def isC (n : Nat) (f : Nat → Nat → L) : Prop := Sh n 4 f (cN (cOf n f))
theorem isC_c (c : Cnd) : isC c.n (cN c) := fun _ _ _ _ => rfl
def sCi (P : Cnd → Int → Prop) (g : Cnd → Int → AV) : List AV → Sd × AV
  | [.c (.sl 4 n f), .c (.v (.int .i64 k))] => (.p (isC n f ∧ P (cOf n f) k), g (cOf n f) k)
  | _ => (.p False, .top)
theorem sCi_ok {f : FuncId} {P} {g} (h : ∀ c k, P c k → Fn1 Try.prog f [cV c, intV k] (g c k)) : ∀ args, (sCi P g args).1.ok → (sCi P g args).2.exact.isSome = true → Fn1 Try.prog f args (sCi P g args).2 := fun args hs _ => by
  unfold sCi at hs ⊢
  split at hs
  · exact (h _ _ hs.2).le (Le.cons (Le1.sl hs.1) (Le.cons (Le1.refl _) Le.nil))
  · exact hs.elim
def gamI2 : Gam := fun f => match f with
  | 38 => some (s1S (fun s => s.size ≤ maxLen) nameB)
  | 58 => some (s1S (fun s => s.size ≤ maxLen) nameB)
  | 93 => some (sCi (fun c k => c.n ≤ 1000000 ∧ k < c.n) fun c k => intV (sp c k))
  | _ => none
theorem gamI2_ok : GOk Try.prog gamI2 := fun f g h => by
  unfold gamI2 at h
  split at h
  · injection h with h; subst h; exact s1S_ok name1
  · injection h with h; subst h; exact s1S_ok named4
  · injection h with h; subst h; exact sCi_ok fun c k hp => span4 c hp.1 k hp.2
  · cases h

def Cnd.ok (c : Cnd) : Prop := c.n ≤ maxLen ∧ ∀ k, k < c.n → (c.nm k).size ≤ maxLen
set_option maxHeartbeats 4000000 in
theorem cond1 (c : Cnd) (hc : c.ok) : Fn1 Try.prog 78 [cV c] (intV (cndE c)) := by
  refine fn_of_wpx (O := lex) tab_ok gamI2_ok mixed Try.func78 (by kernel_rfl) rfl rfl rfl (by simp [Try.ntmps78]) (by kernel_rfl) ?_
  obtain ⟨hn, hs⟩ := hc
  have hn' : c.n ≤ 9223372036854775807 := hn
  conv => whnf
  repeat' (first
    | (refine NilG.mk fun bn hbn hbx => ?_; conv => whnf)
    | (refine Both.mk ?_ ?_ <;> conv => whnf)
    | ((first | (refine MkG.box 1 rfl rfl rfl (by decide) ?_) | (refine MkG.box 2 rfl rfl rfl (by decide) ?_) | (refine MkG.box 3 rfl rfl rfl (by decide) ?_) | (refine MkG.row ?_)); conv => whnf)
    | exact trivial
    | (refine Br.mk (fun hb => ?_) (fun hb => ?_) <;> (first | (exfalso; revert hb; decide) | ((try simp only [BL] at hb) <;> (try simp only [DL] at hb) <;> conv => whnf)))
    | (refine And.intro ?_ ?_; (focus (first | exact id | exact rfl | exact trivial | (intro hg; first | exact hg | exact rfl | (simp; done) | (simp at hg ⊢; assumption)) | omega | decide | exact is2_c _ _ _ | exact is1_c _ _ | exact isS_c _ _ | exact isB_c _ _ | exact Nat.le_refl _ | assumption | exact mulLe (by decide) (by omega) | exact mulLe2 (by decide) (by omega) (by omega) | (intros; simp only [BL] at *; omega) | (intros; (try simp only [BL] at *); (try simp only [DL] at *); omega) | (intros; simp only [BL] at *; rw [wr_id (by omega) (by omega)]; omega) | (intro h1 h2; exact Bool.and_eq_true_iff.2 ⟨h1, h2⟩) | (intros; simp_all; done))); conv => whnf)
    | (refine Or.inr (And.intro rfl ?_); first | (refine congrArg intV ?_) | (refine congrArg boolV ?_) | (refine tupII ?_ ?_) | (refine tupIII ?_ ?_ ?_) | (refine tupU ?_ ?_ ?_ ?_ ?_) | exact rfl))
  · unfold cndE
    rw [if_pos (by omega)]
  · unfold cndE
    rw [if_neg (by omega), if_pos (by omega)]
  have hE : cndE c = if fst (nodE c) c.n ≠ 0 then fst (nodE c) c.n else if sp c ((c.n : Int) - 1) ≠ 0 then 3 else 0 := by unfold cndE; rw [if_neg (by omega), if_neg (by omega)]
  have hn40 : c.n ≤ 40 ∧ 0 < c.n := by omega
  clear hb
  refine sem_loop tab_ok gamI2_ok mixed (by kernel_rfl) (O := lex) (fun i : Nat => ⟨[(0, cV c), (3, .own 0), (18, cV c), (19, intV c.n), (20, intV i)], [.row 3 1 c.n false (c1 fun k => if k < i then sp c k else 0)]⟩) (fun i => i ≤ c.n ∧ fst (nodE c) i = 0) (fun i => c.n - i) ⟨0, [?_], ⟨Nat.zero_le _, rfl⟩, ?_⟩ fun i hi => ?_
  rotate_left 1
  · refine Sub.of ?_ ?_ ?_
    repeat' (first | (refine And.intro ?_ ?_) | exact trivial | exact fun _ _ _ => hsc _ _ | (exact congrArg intV (by first | with_reducible rfl | with_reducible assumption)) | exact (rfl : AV.idsLt _ _ = true) | exact (rfl : _ = AV.ren _ (.own _)) | exact (rfl : _ = AV.ren _ (.fn _ _)) | exact (rfl : _ = AV.ren _ (.gh _)) | (exact congrArg intV (by assumption)) | (refine congrArg intV ((wr_id (by omega) (by omega)).trans (by omega))) | exact rfl | (simp only [Int.toNat_natCast, Int.toNat_zero, Nat.sub_zero, Nat.zero_add]; first | exact rfl | done) | exact all0 | exact fun h => Bool.noConfusion h | exact fun _ _ _ _ => rfl | omega)
    · intro k _ b hb
      have hb : b < 1 := hb
      obtain rfl : b = 0 := by omega
      show _ = iL (if k < 0 then _ else 0)
      rw [if_neg (Nat.not_lt_zero k)]
      rfl
  have fin : ∀ v, nodE c i = v → v ≠ 0 → i < c.n → v = cndE c := fun v h1 h0 hlt => by
    rw [hE, fst_at hi.2 (by rw [h1]; exact h0) hlt, h1, if_pos h0]
  have hprev : ∀ k, k < i → 0 ≤ sp c k := fun k hk => (nodE_zero (fst_zero hi.2 k hk)).2.2.2.2
  have hst := nodE_start hprev
  have hw1 : IntKind.i64.wrap ((i : Int) - 1) = (i : Int) - 1 := wr_id (by omega) (by omega)
  have hmn := man_is c i
  rcases Nat.eq_zero_or_pos i with h0 | h0
  · subst h0
    conv => whnf
    repeat' (first
      | (refine NilG.mk fun bn hbn hbx => ?_; conv => whnf)
      | (refine Both.mk ?_ ?_ <;> conv => whnf)
      | ((first | (refine MkG.box 1 rfl rfl rfl (by decide) ?_) | (refine MkG.box 2 rfl rfl rfl (by decide) ?_) | (refine MkG.box 3 rfl rfl rfl (by decide) ?_) | (refine MkG.row ?_)); conv => whnf)
      | exact trivial
      | (refine Br.mk (fun hb => ?_) (fun hb => ?_) <;> (first | (exfalso; revert hb; decide) | ((try simp only [BL] at hb) <;> (try simp only [DL] at hb) <;> conv => whnf)))
      | (refine And.intro ?_ ?_; (focus (first | exact id | exact rfl | exact trivial | (intro hg; first | exact hg | exact rfl | (simp; done) | (simp at hg ⊢; assumption)) | omega | decide | exact is2_c _ _ _ | exact is1_c _ _ | exact isS_c _ _ | exact isB_c _ _ | exact Nat.le_refl _ | assumption | exact mulLe (by decide) (by omega) | exact mulLe2 (by decide) (by omega) (by omega) | (intros; simp only [BL] at *; omega) | (intros; (try simp only [BL] at *); (try simp only [DL] at *); omega) | (intros; simp only [BL] at *; rw [wr_id (by omega) (by omega)]; omega) | (intro h1 h2; exact Bool.and_eq_true_iff.2 ⟨h1, h2⟩) | exact hs _ (by omega) | (intros; simp_all; done))); conv => whnf)
      | (refine Or.inr (And.intro rfl ?_); first | (refine congrArg intV ?_) | (refine congrArg boolV ?_) | (refine tupII ?_ ?_) | (refine tupIII ?_ ?_ ?_) | (refine tupU ?_ ?_ ?_ ?_ ?_) | exact rfl))
    all_goals first
    | (refine fin 1 ?_ (by decide) (by omega); unfold nodE; rw [if_pos (by omega)]; done)
    | (refine fin 6 (nodE_is6 (by omega) (by omega) hb) (by decide) (by omega); done)
    | (refine fin 3 (nodE_is3 (by omega) (by omega) (by assumption) (.inl hb)) (by decide) (by omega); done)
    | (refine fin 3 (nodE_is3 (by omega) (by omega) (by assumption) (.inr (by omega))) (by decide) (by omega); done)
    | (exfalso; omega)
    | skip
    · have h1 : nodE c 0 = 0 := nodE_is0 (by omega) (by omega) (by assumption) (by assumption) (by omega)
      refine ⟨1, [?_], ⟨by omega, fst_next hi.2 h1⟩, by omega, ?_⟩
      rotate_left 1
      refine Sub.of ?_ ?_ ?_
      repeat' (first | (refine And.intro ?_ ?_) | exact trivial | exact fun _ _ _ => hsc _ _ | (exact congrArg intV (by first | with_reducible rfl | with_reducible assumption)) | exact (rfl : AV.idsLt _ _ = true) | exact (rfl : _ = AV.ren _ (.own _)) | exact (rfl : _ = AV.ren _ (.fn _ _)) | exact (rfl : _ = AV.ren _ (.gh _)) | (exact congrArg intV (by assumption)) | (refine congrArg intV ((wr_id (by omega) (by omega)).trans (by omega))) | exact rfl | (simp only [Int.toNat_natCast, Int.toNat_zero, Nat.sub_zero, Nat.zero_add]; first | exact rfl | done) | exact all0 | exact fun h => Bool.noConfusion h | exact fun _ _ _ _ => rfl | omega)
      · intro k hk b hb
        obtain rfl : b = 0 := by omega
        by_cases e : k = 0
        · subst e
          show iL 0 = iL (if 0 < 1 then sp c ((0 : Nat) : Int) else 0)
          rw [if_pos (by decide), sp_eq c 0, if_neg (by omega), if_neg (by omega)]
          rfl
        · refine (if_neg e).trans ?_
          show iL (if k < 0 then sp c k else 0) = iL (if k < 1 then sp c k else 0)
          rw [if_neg (by omega), if_neg (by omega)]
  · have hv1 : (if (IntKind.i64.wrap ((i : Int) - 1)).toNat < i then sp c ((IntKind.i64.wrap ((i : Int) - 1)).toNat : Nat) else 0) = sp c ((i : Int) - 1) := by
      rw [hw1, if_pos (by omega), show (((((i : Int) - 1).toNat : Nat)) : Int) = (i : Int) - 1 by omega]
    conv => whnf
    repeat' (first
      | (refine NilG.mk fun bn hbn hbx => ?_; conv => whnf)
      | (refine Both.mk ?_ ?_ <;> conv => whnf)
      | ((first | (refine MkG.box 1 rfl rfl rfl (by decide) ?_) | (refine MkG.box 2 rfl rfl rfl (by decide) ?_) | (refine MkG.box 3 rfl rfl rfl (by decide) ?_) | (refine MkG.row ?_)); conv => whnf)
      | exact trivial
      | (refine Br.mk (fun hb => ?_) (fun hb => ?_) <;> (first | (exfalso; revert hb; decide) | ((try simp only [BL] at hb) <;> (try simp only [DL] at hb) <;> conv => whnf)))
      | (refine And.intro ?_ ?_; (focus (first | exact id | exact rfl | exact trivial | (intro hg; first | exact hg | exact rfl | (simp; done) | (simp at hg ⊢; assumption)) | omega | decide | exact is2_c _ _ _ | exact is1_c _ _ | exact isS_c _ _ | exact isB_c _ _ | exact Nat.le_refl _ | assumption | exact mulLe (by decide) (by omega) | exact mulLe2 (by decide) (by omega) (by omega) | (intros; simp only [BL] at *; omega) | (intros; (try simp only [BL] at *); (try simp only [DL] at *); omega) | (intros; simp only [BL] at *; rw [wr_id (by omega) (by omega)]; omega) | (intro h1 h2; exact Bool.and_eq_true_iff.2 ⟨h1, h2⟩) | exact hs _ (by omega) | (intro hg; simp only [BL] at hg; rw [hw1]; omega) | (intro hg; refine ⟨rfl, ?_, by decide⟩; rw [hw1]; omega) | (intros; simp_all; done))); conv => whnf)
      | (refine Or.inr (And.intro rfl ?_); first | (refine congrArg intV ?_) | (refine congrArg boolV ?_) | (refine tupII ?_ ?_) | (refine tupIII ?_ ?_ ?_) | (refine tupU ?_ ?_ ?_ ?_ ?_) | exact rfl))
    all_goals first
    | (refine fin 1 ?_ (by decide) (by omega); unfold nodE; rw [if_pos (by omega)]; done)
    | (refine fin 6 (nodE_is6 (by omega) (by omega) hb) (by decide) (by omega); done)
    | (refine fin 3 (nodE_is3 (by omega) (by omega) (by assumption) (.inl hb)) (by decide) (by omega); done)
    | (refine fin 3 (nodE_is3 (by omega) (by omega) (by assumption) (.inr (by omega))) (by decide) (by omega); done)
    | (exfalso; omega)
    | skip
    · have h4 : c.kd i = 4 := by omega
      have hai : c.a i = (i : Int) - 1 := by omega
      refine And.intro ⟨rfl, show (c.a i).toNat < c.n by omega, by decide⟩ ?_
      dsimp only
      rw [if_neg (show ¬ (c.a ((i : Nat) : Int).toNat).toNat = ((i : Nat) : Int).toNat from show ¬ (c.a i).toNat = i by omega)]
      conv => whnf
      repeat' (first
        | (refine NilG.mk fun bn hbn hbx => ?_; conv => whnf)
        | (refine Both.mk ?_ ?_ <;> conv => whnf)
        | ((first | (refine MkG.box 1 rfl rfl rfl (by decide) ?_) | (refine MkG.box 2 rfl rfl rfl (by decide) ?_) | (refine MkG.box 3 rfl rfl rfl (by decide) ?_) | (refine MkG.row ?_)); conv => whnf)
        | exact trivial
        | (refine Br.mk (fun hb => ?_) (fun hb => ?_) <;> (first | (exfalso; revert hb; decide) | ((try simp only [BL] at hb) <;> (try simp only [DL] at hb) <;> conv => whnf)))
        | (refine And.intro ?_ ?_; (focus (first | exact id | exact rfl | exact trivial | (intro hg; first | exact hg | exact rfl | (simp; done) | (simp at hg ⊢; assumption)) | omega | decide | exact is2_c _ _ _ | exact is1_c _ _ | exact isS_c _ _ | exact isB_c _ _ | exact Nat.le_refl _ | assumption | exact mulLe (by decide) (by omega) | exact mulLe2 (by decide) (by omega) (by omega) | (intros; simp only [BL] at *; omega) | (intros; (try simp only [BL] at *); (try simp only [DL] at *); omega) | (intros; simp only [BL] at *; rw [wr_id (by omega) (by omega)]; omega) | (intro h1 h2; exact Bool.and_eq_true_iff.2 ⟨h1, h2⟩) | (intros; simp_all; done))); conv => whnf)
        | (refine Or.inr (And.intro rfl ?_); first | (refine congrArg intV ?_) | (refine congrArg boolV ?_) | (refine tupII ?_ ?_) | (refine tupIII ?_ ?_ ?_) | (refine tupU ?_ ?_ ?_ ?_ ?_) | exact rfl))
      have h1 : nodE c i = 0 := nodE_is0 (by omega) (by omega) (by assumption) (by assumption) (by omega)
      have hsp : sp c i = sp c (c.a i) := by rw [sp_eq c i, if_pos h4, if_neg (fun h => h hai)]
      refine ⟨i + 1, [?_], ⟨by omega, fst_next hi.2 h1⟩, by omega, ?_⟩
      rotate_left 1
      refine Sub.of ?_ ?_ ?_
      repeat' (first | (refine And.intro ?_ ?_) | exact trivial | exact fun _ _ _ => hsc _ _ | (exact congrArg intV (by first | with_reducible rfl | with_reducible assumption)) | exact (rfl : AV.idsLt _ _ = true) | exact (rfl : _ = AV.ren _ (.own _)) | exact (rfl : _ = AV.ren _ (.fn _ _)) | exact (rfl : _ = AV.ren _ (.gh _)) | (exact congrArg intV (by assumption)) | (refine congrArg intV ((wr_id (by omega) (by omega)).trans (by omega))) | exact rfl | (simp only [Int.toNat_natCast, Int.toNat_zero, Nat.sub_zero, Nat.zero_add]; first | exact rfl | done) | exact all0 | exact fun h => Bool.noConfusion h | exact fun _ _ _ _ => rfl | omega)
      · intro k hk b hb
        obtain rfl : b = 0 := by omega
        by_cases e : k = i
        · refine (if_pos e).trans ((if_pos ⟨Nat.le_refl _, Nat.zero_lt_one⟩).trans (congrArg (fun y => L.v (.int .i64 y)) ?_))
          show (if (c.a i).toNat < i then sp c ((c.a i).toNat : Nat) else 0) = if k < i + 1 then sp c k else 0
          rw [if_pos (by omega), if_pos (by omega), e, hsp, show (((c.a i).toNat : Nat) : Int) = c.a i by omega]
        · refine (if_neg e).trans ((if_neg e).trans ?_)
          show iL (if k < i then sp c k else 0) = iL (if k < i + 1 then sp c k else 0)
          by_cases e2 : k < i
          · rw [if_pos e2, if_pos (by omega)]
          · rw [if_neg e2, if_neg (by omega)]
    · have hk56 : c.kd i = 5 ∨ c.kd i = 6 := by omega
      dsimp only
      rw [if_neg (show ¬ (IntKind.i64.wrap ((i : Int) - 1)).toNat = ((i : Nat) : Int).toNat by rw [hw1]; omega)]
      conv => whnf
      repeat' (first
        | (refine NilG.mk fun bn hbn hbx => ?_; conv => whnf)
        | (refine Both.mk ?_ ?_ <;> conv => whnf)
        | ((first | (refine MkG.box 1 rfl rfl rfl (by decide) ?_) | (refine MkG.box 2 rfl rfl rfl (by decide) ?_) | (refine MkG.box 3 rfl rfl rfl (by decide) ?_) | (refine MkG.row ?_)); conv => whnf)
        | exact trivial
        | (refine Br.mk (fun hb => ?_) (fun hb => ?_) <;> (first | (exfalso; revert hb; decide) | ((try simp only [BL] at hb) <;> (try simp only [DL] at hb) <;> conv => whnf)))
        | (refine And.intro ?_ ?_; (focus (first | exact id | exact rfl | exact trivial | (intro hg; first | exact hg | exact rfl | (simp; done) | (simp at hg ⊢; assumption)) | omega | decide | exact is2_c _ _ _ | exact is1_c _ _ | exact isS_c _ _ | exact isB_c _ _ | exact Nat.le_refl _ | assumption | exact mulLe (by decide) (by omega) | exact mulLe2 (by decide) (by omega) (by omega) | (intros; simp only [BL] at *; omega) | (intros; (try simp only [BL] at *); (try simp only [DL] at *); omega) | (intros; simp only [BL] at *; rw [wr_id (by omega) (by omega)]; omega) | (intro h1 h2; exact Bool.and_eq_true_iff.2 ⟨h1, h2⟩) | (intro hg; simp only [BL] at hg; rw [hw1]; omega) | (intro hg; refine ⟨rfl, ?_, by decide⟩; rw [hw1]; omega) | (intros; simp_all; done))); conv => whnf)
        | (refine Or.inr (And.intro rfl ?_); first | (refine congrArg intV ?_) | (refine congrArg boolV ?_) | (refine tupII ?_ ?_) | (refine tupIII ?_ ?_ ?_) | (refine tupU ?_ ?_ ?_ ?_ ?_) | exact rfl))
      dsimp only
      rw [if_neg (show ¬ (IntKind.i64.wrap ((i : Int) - 1)).toNat = ((i : Nat) : Int).toNat by rw [hw1]; omega)]
      conv => whnf
      repeat' (first
        | (refine NilG.mk fun bn hbn hbx => ?_; conv => whnf)
        | (refine Both.mk ?_ ?_ <;> conv => whnf)
        | ((first | (refine MkG.box 1 rfl rfl rfl (by decide) ?_) | (refine MkG.box 2 rfl rfl rfl (by decide) ?_) | (refine MkG.box 3 rfl rfl rfl (by decide) ?_) | (refine MkG.row ?_)); conv => whnf)
        | exact trivial
        | (refine Br.mk (fun hb => ?_) (fun hb => ?_) <;> (first | (exfalso; revert hb; decide) | ((try simp only [BL] at hb) <;> (try simp only [DL] at hb) <;> conv => whnf)))
        | (refine And.intro ?_ ?_; (focus (first | exact id | exact rfl | exact trivial | (intro hg; first | exact hg | exact rfl | (simp; done) | (simp at hg ⊢; assumption)) | omega | decide | exact is2_c _ _ _ | exact is1_c _ _ | exact isS_c _ _ | exact isB_c _ _ | exact Nat.le_refl _ | assumption | exact mulLe (by decide) (by omega) | exact mulLe2 (by decide) (by omega) (by omega) | (intros; simp only [BL] at *; omega) | (intros; (try simp only [BL] at *); (try simp only [DL] at *); omega) | (intros; simp only [BL] at *; rw [wr_id (by omega) (by omega)]; omega) | (intro h1 h2; exact Bool.and_eq_true_iff.2 ⟨h1, h2⟩) | (intro hg; simp only [BL] at hg; rw [hw1]; omega) | (intro hg; refine ⟨rfl, ?_, by decide⟩; rw [hw1]; omega) | (intros; simp_all; done))); conv => whnf)
        | (refine Or.inr (And.intro rfl ?_); first | (refine congrArg intV ?_) | (refine congrArg boolV ?_) | (refine tupII ?_ ?_) | (refine tupIII ?_ ?_ ?_) | (refine tupU ?_ ?_ ?_ ?_ ?_) | exact rfl))
      · rw [hv1] at hb
        have hsl := sp_le c (k := (i : Int) - 1) (by omega)
        rw [wr_id (x := sp c ((i : Int) - 1) - 1) (by omega) (by omega)] at hb
        exact fin 3 (nodE_is3 (by omega) (by omega) (by assumption) (.inr (by omega))) (by decide) (by omega)
      · rw [hv1] at hb
        have hsl := sp_le c (k := (i : Int) - 1) (by omega)
        rw [wr_id (x := sp c ((i : Int) - 1) - 1) (by omega) (by omega)] at hb
        have hp1 := hprev (i - 1) (by omega)
        rw [show ((i - 1 : Nat) : Int) = (i : Int) - 1 by omega] at hp1
        have hai : c.a i = sp c ((i : Int) - 1) - 1 := by omega
        refine And.intro (show 0 ≤ c.a i ∧ c.a i < c.n by omega) ?_
        conv => whnf
        repeat' (first
          | (refine NilG.mk fun bn hbn hbx => ?_; conv => whnf)
          | (refine Both.mk ?_ ?_ <;> conv => whnf)
          | ((first | (refine MkG.box 1 rfl rfl rfl (by decide) ?_) | (refine MkG.box 2 rfl rfl rfl (by decide) ?_) | (refine MkG.box 3 rfl rfl rfl (by decide) ?_) | (refine MkG.row ?_)); conv => whnf)
          | exact trivial
          | (refine Br.mk (fun hb => ?_) (fun hb => ?_) <;> (first | (exfalso; revert hb; decide) | ((try simp only [BL] at hb) <;> (try simp only [DL] at hb) <;> conv => whnf)))
          | (refine And.intro ?_ ?_; (focus (first | exact id | exact rfl | exact trivial | (intro hg; first | exact hg | exact rfl | (simp; done) | (simp at hg ⊢; assumption)) | omega | decide | exact is2_c _ _ _ | exact is1_c _ _ | exact isS_c _ _ | exact isB_c _ _ | exact Nat.le_refl _ | assumption | exact mulLe (by decide) (by omega) | exact mulLe2 (by decide) (by omega) (by omega) | (intros; simp only [BL] at *; omega) | (intros; (try simp only [BL] at *); (try simp only [DL] at *); omega) | (intros; simp only [BL] at *; rw [wr_id (by omega) (by omega)]; omega) | (intro h1 h2; exact Bool.and_eq_true_iff.2 ⟨h1, h2⟩) | (intros; simp_all; done))); conv => whnf)
          | (refine Or.inr (And.intro rfl ?_); first | (refine congrArg intV ?_) | (refine congrArg boolV ?_) | (refine tupII ?_ ?_) | (refine tupIII ?_ ?_ ?_) | (refine tupU ?_ ?_ ?_ ?_ ?_) | exact rfl))
        refine And.intro ⟨rfl, show (c.a i).toNat < c.n by omega, by decide⟩ ?_
        dsimp only
        rw [if_neg (show ¬ (c.a ((i : Nat) : Int).toNat).toNat = ((i : Nat) : Int).toNat from show ¬ (c.a i).toNat = i by omega)]
        conv => whnf
        repeat' (first
          | (refine NilG.mk fun bn hbn hbx => ?_; conv => whnf)
          | (refine Both.mk ?_ ?_ <;> conv => whnf)
          | ((first | (refine MkG.box 1 rfl rfl rfl (by decide) ?_) | (refine MkG.box 2 rfl rfl rfl (by decide) ?_) | (refine MkG.box 3 rfl rfl rfl (by decide) ?_) | (refine MkG.row ?_)); conv => whnf)
          | exact trivial
          | (refine Br.mk (fun hb => ?_) (fun hb => ?_) <;> (first | (exfalso; revert hb; decide) | ((try simp only [BL] at hb) <;> (try simp only [DL] at hb) <;> conv => whnf)))
          | (refine And.intro ?_ ?_; (focus (first | exact id | exact rfl | exact trivial | (intro hg; first | exact hg | exact rfl | (simp; done) | (simp at hg ⊢; assumption)) | omega | decide | exact is2_c _ _ _ | exact is1_c _ _ | exact isS_c _ _ | exact isB_c _ _ | exact Nat.le_refl _ | assumption | exact mulLe (by decide) (by omega) | exact mulLe2 (by decide) (by omega) (by omega) | (intros; simp only [BL] at *; omega) | (intros; (try simp only [BL] at *); (try simp only [DL] at *); omega) | (intros; simp only [BL] at *; rw [wr_id (by omega) (by omega)]; omega) | (intro h1 h2; exact Bool.and_eq_true_iff.2 ⟨h1, h2⟩) | (intros; simp_all; done))); conv => whnf)
          | (refine Or.inr (And.intro rfl ?_); first | (refine congrArg intV ?_) | (refine congrArg boolV ?_) | (refine tupII ?_ ?_) | (refine tupIII ?_ ?_ ?_) | (refine tupU ?_ ?_ ?_ ?_ ?_) | exact rfl))
        have h1 : nodE c i = 0 := nodE_is0 (by omega) (by omega) (by assumption) (by assumption) (by omega)
        have hsp : sp c i = sp c (c.a i) := by rw [sp_eq c i, if_neg (by omega), if_pos hk56, if_neg (by omega), show c.b i = (i : Int) - 1 by omega, if_neg (by omega)]
        refine ⟨i + 1, [?_], ⟨by omega, fst_next hi.2 h1⟩, by omega, ?_⟩
        rotate_left 1
        refine Sub.of ?_ ?_ ?_
        repeat' (first | (refine And.intro ?_ ?_) | exact trivial | exact fun _ _ _ => hsc _ _ | (exact congrArg intV (by first | with_reducible rfl | with_reducible assumption)) | exact (rfl : AV.idsLt _ _ = true) | exact (rfl : _ = AV.ren _ (.own _)) | exact (rfl : _ = AV.ren _ (.fn _ _)) | exact (rfl : _ = AV.ren _ (.gh _)) | (exact congrArg intV (by assumption)) | (refine congrArg intV ((wr_id (by omega) (by omega)).trans (by omega))) | exact rfl | (simp only [Int.toNat_natCast, Int.toNat_zero, Nat.sub_zero, Nat.zero_add]; first | exact rfl | done) | exact all0 | exact fun h => Bool.noConfusion h | exact fun _ _ _ _ => rfl | omega)
        · intro k hk b hb
          obtain rfl : b = 0 := by omega
          by_cases e : k = i
          · refine (if_pos e).trans ((if_pos ⟨Nat.le_refl _, Nat.zero_lt_one⟩).trans (congrArg (fun y => L.v (.int .i64 y)) ?_))
            show (if (c.a i).toNat < i then sp c ((c.a i).toNat : Nat) else 0) = if k < i + 1 then sp c k else 0
            rw [if_pos (by omega), if_pos (by omega), e, hsp, show (((c.a i).toNat : Nat) : Int) = c.a i by omega]
          · refine (if_neg e).trans ((if_neg e).trans ?_)
            show iL (if k < i then sp c k else 0) = iL (if k < i + 1 then sp c k else 0)
            by_cases e2 : k < i
            · rw [if_pos e2, if_pos (by omega)]
            · rw [if_neg e2, if_neg (by omega)]
    · have hk56 : c.kd i = 5 ∨ c.kd i = 6 := by omega
      dsimp only
      rw [if_neg (show ¬ (IntKind.i64.wrap ((i : Int) - 1)).toNat = ((i : Nat) : Int).toNat by rw [hw1]; omega)]
      conv => whnf
      repeat' (first
        | (refine NilG.mk fun bn hbn hbx => ?_; conv => whnf)
        | (refine Both.mk ?_ ?_ <;> conv => whnf)
        | ((first | (refine MkG.box 1 rfl rfl rfl (by decide) ?_) | (refine MkG.box 2 rfl rfl rfl (by decide) ?_) | (refine MkG.box 3 rfl rfl rfl (by decide) ?_) | (refine MkG.row ?_)); conv => whnf)
        | exact trivial
        | (refine Br.mk (fun hb => ?_) (fun hb => ?_) <;> (first | (exfalso; revert hb; decide) | ((try simp only [BL] at hb) <;> (try simp only [DL] at hb) <;> conv => whnf)))
        | (refine And.intro ?_ ?_; (focus (first | exact id | exact rfl | exact trivial | (intro hg; first | exact hg | exact rfl | (simp; done) | (simp at hg ⊢; assumption)) | omega | decide | exact is2_c _ _ _ | exact is1_c _ _ | exact isS_c _ _ | exact isB_c _ _ | exact Nat.le_refl _ | assumption | exact mulLe (by decide) (by omega) | exact mulLe2 (by decide) (by omega) (by omega) | (intros; simp only [BL] at *; omega) | (intros; (try simp only [BL] at *); (try simp only [DL] at *); omega) | (intros; simp only [BL] at *; rw [wr_id (by omega) (by omega)]; omega) | (intro h1 h2; exact Bool.and_eq_true_iff.2 ⟨h1, h2⟩) | (intro hg; simp only [BL] at hg; rw [hw1]; omega) | (intro hg; refine ⟨rfl, ?_, by decide⟩; rw [hw1]; omega) | (intros; simp_all; done))); conv => whnf)
        | (refine Or.inr (And.intro rfl ?_); first | (refine congrArg intV ?_) | (refine congrArg boolV ?_) | (refine tupII ?_ ?_) | (refine tupIII ?_ ?_ ?_) | (refine tupU ?_ ?_ ?_ ?_ ?_) | exact rfl))
      dsimp only
      rw [if_neg (show ¬ (IntKind.i64.wrap ((i : Int) - 1)).toNat = ((i : Nat) : Int).toNat by rw [hw1]; omega)]
      conv => whnf
      repeat' (first
        | (refine NilG.mk fun bn hbn hbx => ?_; conv => whnf)
        | (refine Both.mk ?_ ?_ <;> conv => whnf)
        | ((first | (refine MkG.box 1 rfl rfl rfl (by decide) ?_) | (refine MkG.box 2 rfl rfl rfl (by decide) ?_) | (refine MkG.box 3 rfl rfl rfl (by decide) ?_) | (refine MkG.row ?_)); conv => whnf)
        | exact trivial
        | (refine Br.mk (fun hb => ?_) (fun hb => ?_) <;> (first | (exfalso; revert hb; decide) | ((try simp only [BL] at hb) <;> (try simp only [DL] at hb) <;> conv => whnf)))
        | (refine And.intro ?_ ?_; (focus (first | exact id | exact rfl | exact trivial | (intro hg; first | exact hg | exact rfl | (simp; done) | (simp at hg ⊢; assumption)) | omega | decide | exact is2_c _ _ _ | exact is1_c _ _ | exact isS_c _ _ | exact isB_c _ _ | exact Nat.le_refl _ | assumption | exact mulLe (by decide) (by omega) | exact mulLe2 (by decide) (by omega) (by omega) | (intros; simp only [BL] at *; omega) | (intros; (try simp only [BL] at *); (try simp only [DL] at *); omega) | (intros; simp only [BL] at *; rw [wr_id (by omega) (by omega)]; omega) | (intro h1 h2; exact Bool.and_eq_true_iff.2 ⟨h1, h2⟩) | (intro hg; simp only [BL] at hg; rw [hw1]; omega) | (intro hg; refine ⟨rfl, ?_, by decide⟩; rw [hw1]; omega) | (intros; simp_all; done))); conv => whnf)
        | (refine Or.inr (And.intro rfl ?_); first | (refine congrArg intV ?_) | (refine congrArg boolV ?_) | (refine tupII ?_ ?_) | (refine tupIII ?_ ?_ ?_) | (refine tupU ?_ ?_ ?_ ?_ ?_) | exact rfl))
      · rw [hv1] at hb
        have hsl := sp_le c (k := (i : Int) - 1) (by omega)
        rw [wr_id (x := sp c ((i : Int) - 1) - 1) (by omega) (by omega)] at hb
        exact fin 3 (nodE_is3 (by omega) (by omega) (by assumption) (.inr (by omega))) (by decide) (by omega)
      · rw [hv1] at hb
        have hsl := sp_le c (k := (i : Int) - 1) (by omega)
        rw [wr_id (x := sp c ((i : Int) - 1) - 1) (by omega) (by omega)] at hb
        have hp1 := hprev (i - 1) (by omega)
        rw [show ((i - 1 : Nat) : Int) = (i : Int) - 1 by omega] at hp1
        have hai : c.a i = sp c ((i : Int) - 1) - 1 := by omega
        refine And.intro (show 0 ≤ c.a i ∧ c.a i < c.n by omega) ?_
        conv => whnf
        repeat' (first
          | (refine NilG.mk fun bn hbn hbx => ?_; conv => whnf)
          | (refine Both.mk ?_ ?_ <;> conv => whnf)
          | ((first | (refine MkG.box 1 rfl rfl rfl (by decide) ?_) | (refine MkG.box 2 rfl rfl rfl (by decide) ?_) | (refine MkG.box 3 rfl rfl rfl (by decide) ?_) | (refine MkG.row ?_)); conv => whnf)
          | exact trivial
          | (refine Br.mk (fun hb => ?_) (fun hb => ?_) <;> (first | (exfalso; revert hb; decide) | ((try simp only [BL] at hb) <;> (try simp only [DL] at hb) <;> conv => whnf)))
          | (refine And.intro ?_ ?_; (focus (first | exact id | exact rfl | exact trivial | (intro hg; first | exact hg | exact rfl | (simp; done) | (simp at hg ⊢; assumption)) | omega | decide | exact is2_c _ _ _ | exact is1_c _ _ | exact isS_c _ _ | exact isB_c _ _ | exact Nat.le_refl _ | assumption | exact mulLe (by decide) (by omega) | exact mulLe2 (by decide) (by omega) (by omega) | (intros; simp only [BL] at *; omega) | (intros; (try simp only [BL] at *); (try simp only [DL] at *); omega) | (intros; simp only [BL] at *; rw [wr_id (by omega) (by omega)]; omega) | (intro h1 h2; exact Bool.and_eq_true_iff.2 ⟨h1, h2⟩) | (intros; simp_all; done))); conv => whnf)
          | (refine Or.inr (And.intro rfl ?_); first | (refine congrArg intV ?_) | (refine congrArg boolV ?_) | (refine tupII ?_ ?_) | (refine tupIII ?_ ?_ ?_) | (refine tupU ?_ ?_ ?_ ?_ ?_) | exact rfl))
        refine And.intro ⟨rfl, show (c.a i).toNat < c.n by omega, by decide⟩ ?_
        dsimp only
        rw [if_neg (show ¬ (c.a ((i : Nat) : Int).toNat).toNat = ((i : Nat) : Int).toNat from show ¬ (c.a i).toNat = i by omega)]
        conv => whnf
        repeat' (first
          | (refine NilG.mk fun bn hbn hbx => ?_; conv => whnf)
          | (refine Both.mk ?_ ?_ <;> conv => whnf)
          | ((first | (refine MkG.box 1 rfl rfl rfl (by decide) ?_) | (refine MkG.box 2 rfl rfl rfl (by decide) ?_) | (refine MkG.box 3 rfl rfl rfl (by decide) ?_) | (refine MkG.row ?_)); conv => whnf)
          | exact trivial
          | (refine Br.mk (fun hb => ?_) (fun hb => ?_) <;> (first | (exfalso; revert hb; decide) | ((try simp only [BL] at hb) <;> (try simp only [DL] at hb) <;> conv => whnf)))
          | (refine And.intro ?_ ?_; (focus (first | exact id | exact rfl | exact trivial | (intro hg; first | exact hg | exact rfl | (simp; done) | (simp at hg ⊢; assumption)) | omega | decide | exact is2_c _ _ _ | exact is1_c _ _ | exact isS_c _ _ | exact isB_c _ _ | exact Nat.le_refl _ | assumption | exact mulLe (by decide) (by omega) | exact mulLe2 (by decide) (by omega) (by omega) | (intros; simp only [BL] at *; omega) | (intros; (try simp only [BL] at *); (try simp only [DL] at *); omega) | (intros; simp only [BL] at *; rw [wr_id (by omega) (by omega)]; omega) | (intro h1 h2; exact Bool.and_eq_true_iff.2 ⟨h1, h2⟩) | (intros; simp_all; done))); conv => whnf)
          | (refine Or.inr (And.intro rfl ?_); first | (refine congrArg intV ?_) | (refine congrArg boolV ?_) | (refine tupII ?_ ?_) | (refine tupIII ?_ ?_ ?_) | (refine tupU ?_ ?_ ?_ ?_ ?_) | exact rfl))
        have h1 : nodE c i = 0 := nodE_is0 (by omega) (by omega) (by assumption) (by assumption) (by omega)
        have hsp : sp c i = sp c (c.a i) := by rw [sp_eq c i, if_neg (by omega), if_pos hk56, if_neg (by omega), show c.b i = (i : Int) - 1 by omega, if_neg (by omega)]
        refine ⟨i + 1, [?_], ⟨by omega, fst_next hi.2 h1⟩, by omega, ?_⟩
        rotate_left 1
        refine Sub.of ?_ ?_ ?_
        repeat' (first | (refine And.intro ?_ ?_) | exact trivial | exact fun _ _ _ => hsc _ _ | (exact congrArg intV (by first | with_reducible rfl | with_reducible assumption)) | exact (rfl : AV.idsLt _ _ = true) | exact (rfl : _ = AV.ren _ (.own _)) | exact (rfl : _ = AV.ren _ (.fn _ _)) | exact (rfl : _ = AV.ren _ (.gh _)) | (exact congrArg intV (by assumption)) | (refine congrArg intV ((wr_id (by omega) (by omega)).trans (by omega))) | exact rfl | (simp only [Int.toNat_natCast, Int.toNat_zero, Nat.sub_zero, Nat.zero_add]; first | exact rfl | done) | exact all0 | exact fun h => Bool.noConfusion h | exact fun _ _ _ _ => rfl | omega)
        · intro k hk b hb
          obtain rfl : b = 0 := by omega
          by_cases e : k = i
          · refine (if_pos e).trans ((if_pos ⟨Nat.le_refl _, Nat.zero_lt_one⟩).trans (congrArg (fun y => L.v (.int .i64 y)) ?_))
            show (if (c.a i).toNat < i then sp c ((c.a i).toNat : Nat) else 0) = if k < i + 1 then sp c k else 0
            rw [if_pos (by omega), if_pos (by omega), e, hsp, show (((c.a i).toNat : Nat) : Int) = c.a i by omega]
          · refine (if_neg e).trans ((if_neg e).trans ?_)
            show iL (if k < i then sp c k else 0) = iL (if k < i + 1 then sp c k else 0)
            by_cases e2 : k < i
            · rw [if_pos e2, if_pos (by omega)]
            · rw [if_neg e2, if_neg (by omega)]
    · have h1 : nodE c i = 0 := nodE_is0 (by omega) (by omega) (by assumption) (by assumption) (by omega)
      refine ⟨i + 1, [?_], ⟨by omega, fst_next hi.2 h1⟩, by omega, ?_⟩
      rotate_left 1
      refine Sub.of ?_ ?_ ?_
      repeat' (first | (refine And.intro ?_ ?_) | exact trivial | exact fun _ _ _ => hsc _ _ | (exact congrArg intV (by first | with_reducible rfl | with_reducible assumption)) | exact (rfl : AV.idsLt _ _ = true) | exact (rfl : _ = AV.ren _ (.own _)) | exact (rfl : _ = AV.ren _ (.fn _ _)) | exact (rfl : _ = AV.ren _ (.gh _)) | (exact congrArg intV (by assumption)) | (refine congrArg intV ((wr_id (by omega) (by omega)).trans (by omega))) | exact rfl | (simp only [Int.toNat_natCast, Int.toNat_zero, Nat.sub_zero, Nat.zero_add]; first | exact rfl | done) | exact all0 | exact fun h => Bool.noConfusion h | exact fun _ _ _ _ => rfl | omega)
      · intro k hk b hb
        obtain rfl : b = 0 := by omega
        by_cases e : k = i
        · refine (if_pos e).trans ((if_pos ⟨Nat.le_refl _, Nat.zero_lt_one⟩).trans (congrArg (fun y => L.v (.int .i64 y)) ?_))
          show (i : Int) = if k < i + 1 then sp c k else 0
          rw [if_pos (by omega), e, sp_eq c i, if_neg (by omega), if_neg (by omega)]
        · refine (if_neg e).trans ?_
          show iL (if k < i then sp c k else 0) = iL (if k < i + 1 then sp c k else 0)
          by_cases e2 : k < i
          · rw [if_pos e2, if_pos (by omega)]
          · rw [if_neg e2, if_neg (by omega)]
    · have hin : i = c.n := by omega
      have hwn : IntKind.i64.wrap ((c.n : Int) - 1) = (c.n : Int) - 1 := wr_id (by omega) (by omega)
      refine And.intro ⟨rfl, by rw [hwn]; omega, by decide⟩ ?_
      conv => whnf
      repeat' (first
        | (refine NilG.mk fun bn hbn hbx => ?_; conv => whnf)
        | (refine Both.mk ?_ ?_ <;> conv => whnf)
        | ((first | (refine MkG.box 1 rfl rfl rfl (by decide) ?_) | (refine MkG.box 2 rfl rfl rfl (by decide) ?_) | (refine MkG.box 3 rfl rfl rfl (by decide) ?_) | (refine MkG.row ?_)); conv => whnf)
        | exact trivial
        | (refine Br.mk (fun hb => ?_) (fun hb => ?_) <;> (first | (exfalso; revert hb; decide) | ((try simp only [BL] at hb) <;> (try simp only [DL] at hb) <;> conv => whnf)))
        | (refine And.intro ?_ ?_; (focus (first | exact id | exact rfl | exact trivial | (intro hg; first | exact hg | exact rfl | (simp; done) | (simp at hg ⊢; assumption)) | omega | decide | exact is2_c _ _ _ | exact is1_c _ _ | exact isS_c _ _ | exact isB_c _ _ | exact Nat.le_refl _ | assumption | exact mulLe (by decide) (by omega) | exact mulLe2 (by decide) (by omega) (by omega) | (intros; simp only [BL] at *; omega) | (intros; (try simp only [BL] at *); (try simp only [DL] at *); omega) | (intros; simp only [BL] at *; rw [wr_id (by omega) (by omega)]; omega) | (intro h1 h2; exact Bool.and_eq_true_iff.2 ⟨h1, h2⟩) | (intros; simp_all; done))); conv => whnf)
        | (refine Or.inr (And.intro rfl ?_); first | (refine congrArg intV ?_) | (refine congrArg boolV ?_) | (refine tupII ?_ ?_) | (refine tupIII ?_ ?_ ?_) | (refine tupU ?_ ?_ ?_ ?_ ?_) | exact rfl))
      all_goals
        have hf0 : fst (nodE c) c.n = 0 := by have := hi.2; rwa [hin] at this
        have hvn : (if (IntKind.i64.wrap ((c.n : Int) - 1)).toNat < i then sp c ((IntKind.i64.wrap ((c.n : Int) - 1)).toNat : Nat) else 0) = sp c ((c.n : Int) - 1) := by
          rw [hwn, if_pos (by omega), show (((((c.n : Int) - 1).toNat : Nat)) : Int) = (c.n : Int) - 1 by omega]
        rw [hvn] at hb
      · rw [hE, if_neg (fun h => h hf0), if_pos hb]
      · rw [hE, if_neg (fun h => h hf0), if_neg (fun h => h hb)]
end Go.Proofs.Ytemfikdogdadnaa
