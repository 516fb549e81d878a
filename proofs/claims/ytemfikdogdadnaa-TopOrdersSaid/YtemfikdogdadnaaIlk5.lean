/-
  The package interlock: Explain, Permitted, and the reference's Forbids.
-/
import Derived.Test.YtemfikdogdadnaaIlk4
namespace Go.Proofs.Ytemfikdogdadnaa
open Go.RowKit

theorem cndE_zero {c : Cnd} (h : cndE c = 0) : gdC c ∧ 0 < c.n ∧ c.n ≤ 40 := by
  unfold cndE at h
  split at h
  · cases h
  · split at h
    · cases h
    · split at h
      · rename_i q; exact absurd h q
      · rename_i q
        exact ⟨fun k hk => fst_zero (by simpa using q) k hk, by omega, by omega⟩
theorem rlsE_zero {r : Rls} (h : rlsE r = 0) : r.n ≤ 24 ∧ ∀ k, k < r.n → gdC (r.cd k) ∧ 0 < (r.cd k).n ∧ (r.cd k).n ≤ 40 := by
  unfold rlsE at h
  split at h
  · cases h
  · refine ⟨by omega, fun k hk => ?_⟩
    have h1 := fst_zero h k hk
    unfold ruE at h1
    split at h1
    · cases h1
    · exact cndE_zero h1

/-- the indices of which b is true: how many, and which -/
def flN (b : Nat → Bool) : Nat → Nat
  | 0 => 0
  | k + 1 => if b k = true then flN b k + 1 else flN b k
def flF (b : Nat → Bool) : Nat → Nat → Int
  | 0 => fun _ => 0
  | k + 1 => if b k = true then fun j => if j < flN b k then flF b k j else k else flF b k
theorem flN_le (b : Nat → Bool) : ∀ n, flN b n ≤ n
  | 0 => Nat.le_refl _
  | n + 1 => by have := flN_le b n; simp only [flN]; split <;> omega
/-- rule k forbids -/
def fbB (r : Rls) (s : Sts) (cl : Bool) (nm : ByteArray) (k : Nat) : Bool := (r.cl k == cl) && ((r.sw k).toList == nm.toList) && !(hoV s (r.cd k) ((r.cd k).n - 1))
def exE (r : Rls) (s : Sts) (nm : ByteArray) : Int := if rlsE r ≠ 0 then rlsE r else if stsE s ≠ 0 then stsE s else if sIx s nm < 0 then 8 else 0

def sHol : List AV → Sd × AV
  | [.c (.sl 4 n f), .c (.sl 2 m g)] => (.p (isC n f ∧ isSt m g ∧ gdC (cOf n f) ∧ 0 < n ∧ n ≤ 40 ∧ m ≤ 32), boolV (hoV (stOf m g) (cOf n f) (n - 1)))
  | _ => (.p False, .top)
def sHos : List AV → Sd × AV
  | [.c (.sl 4 n f), .c (.v (.int .i64 k)), .c (.sl 2 m g)] => (.p (isC n f ∧ isSt m g ∧ gdC (cOf n f) ∧ n ≤ 40 ∧ unq (stOf m g) ∧ m ≤ 32 ∧ 0 ≤ k ∧ k < n), boolV (hoV (stOf m g) (cOf n f) k.toNat))
  | _ => (.p False, .top)
def rOf (n : Nat) (f : Nat → Nat → L) : Rls := ⟨n, fun k => (f k 0).toB, fun k => (f k 1).toS, fun k => cOf (lN (f k 2)) (lF (f k 2))⟩
def isR (n : Nat) (f : Nat → Nat → L) : Prop := ShL n 3 f (cR (rOf n f))
theorem isR_c (r : Rls) : isR r.n (cR r) := fun _ _ _ _ => LLe.refl _
def sR1 (P : Rls → Prop) (g : Rls → AV) : List AV → Sd × AV
  | [.c (.sl 3 n f)] => (.p (isR n f ∧ P (rOf n f)), g (rOf n f))
  | _ => (.p False, .top)
theorem sR1_ok {f : FuncId} {P} {g} (h : ∀ r, P r → Fn1 Try.prog f [rlV r] (g r)) : ∀ args, (sR1 P g args).1.ok → (sR1 P g args).2.exact.isSome = true → Fn1 Try.prog f args (sR1 P g args).2 := fun args hs _ => by
  unfold sR1 at hs ⊢
  split at hs
  · exact (h _ hs.2).le (Le.cons (Le1.l (LLe.sl hs.1)) Le.nil)
  · exact hs.elim
def sS1 (P : Sts → Prop) (g : Sts → AV) : List AV → Sd × AV
  | [.c (.sl 2 n f)] => (.p (isSt n f ∧ P (stOf n f)), g (stOf n f))
  | _ => (.p False, .top)
theorem sS1_ok {f : FuncId} {P} {g} (h : ∀ s, P s → Fn1 Try.prog f [stV s] (g s)) : ∀ args, (sS1 P g args).1.ok → (sS1 P g args).2.exact.isSome = true → Fn1 Try.prog f args (sS1 P g args).2 := fun args hs _ => by
  unfold sS1 at hs ⊢
  split at hs
  · exact (h _ hs.2).le (Le.cons (Le1.sl hs.1) Le.nil)
  · exact hs.elim
def gamI5 : Gam := fun f => match f with
  | 46 => some (sR1 Rls.ok fun r => intV (rlsE r))
  | 47 => some (sS1 Sts.ok fun s => intV (stsE s))
  | 25 => some (sR1 Rls.ok fun r => intV (rlsE r))
  | 26 => some (sS1 Sts.ok fun s => intV (stsE s))
  | 79 => some (sSs (fun s _ => s.n ≤ maxLen) fun s nm => intV (fidx (sameN s.nm nm) s.n))
  | 106 => some sHol
  | 113 => some sHos
  | _ => none
theorem gamI5_ok : GOk Try.prog gamI5 := fun f g h => by
  unfold gamI5 at h
  split at h
  · injection h with h; subst h; exact sR1_ok rlsChk
  · injection h with h; subst h; exact sS1_ok stsChk
  · injection h with h; subst h; exact sR1_ok rlsErr
  · injection h with h; subst h; exact sS1_ok stsErr
  · injection h with h; subst h; exact sSs_ok fun s nm hp => ilIdx s s.n nm hp
  · injection h with h; subst h
    intro args hs _
    unfold sHol at hs ⊢
    split at hs
    · obtain ⟨h1, h2, h3, h4, h5, h6⟩ := hs
      exact (ilHolds (cOf _ _) (stOf _ _) h3 h4 h5 h6).le (Le.cons (Le1.sl h1) (Le.cons (Le1.sl h2) Le.nil))
    · exact hs.elim
  · injection h with h; subst h
    intro args hs _
    unfold sHos at hs ⊢
    split at hs
    · obtain ⟨h1, h2, h3, h4, h5, h6, h7, h8⟩ := hs
      exact (rfHolds (cOf _ _) (stOf _ _) h3 h4 h5 h6 _ h7 h8).le (Le.cons (Le1.sl h1) (Le.cons (Le1.refl _) (Le.cons (Le1.sl h2) Le.nil)))
    · exact hs.elim
  · cases h

def exK (r : Rls) (s : Sts) (cl : Bool) (nm : ByteArray) (obs : List OB) (v : AV) : Prop :=
  obs = [] ∧ ((exE r s nm ≠ 0 ∧ v = .tup [.c (.v (.slice none 0 0)), intV (exE r s nm)]) ∨ (exE r s nm = 0 ∧ v = .tup [.c (.sl 1 (flN (fbB r s cl nm) r.n) (c1 (flF (fbB r s cl nm) r.n))), intV 0]))
set_option maxHeartbeats 1000000 in
theorem ilExplain (r : Rls) (s : Sts) (cl : Bool) (nm : ByteArray) (hr : r.ok) (hs : s.ok) : Fn Try.prog 80 [rlV r, stV s, boolV cl, strV nm] (exK r s cl nm) := by
  refine fn_of_wpx (O := lex) tab_ok gamI5_ok mixed Try.func80 (by kernel_rfl) rfl rfl rfl (by simp [Try.ntmps80]) (by kernel_rfl) ?_
  have hn' : r.n ≤ 9223372036854775807 := hr.1
  conv => whnf
  repeat' (first
    | (refine NilG.mk fun bn hbn hbx => ?_; conv => whnf)
    | (refine Both.mk ?_ ?_ <;> conv => whnf)
    | ((first | (refine MkG.box 1 rfl rfl rfl (by decide) ?_) | (refine MkG.box 2 rfl rfl rfl (by decide) ?_) | (refine MkG.box 3 rfl rfl rfl (by decide) ?_) | (refine MkG.row ?_)); conv => whnf)
    | exact trivial
    | (refine Br.mk (fun hb => ?_) (fun hb => ?_) <;> (first | (exfalso; revert hb; decide) | ((try simp only [BL] at hb) <;> (try simp only [DL] at hb) <;> conv => whnf)))
    | (refine And.intro ?_ ?_; (focus (first | exact id | exact rfl | exact trivial | (intro hg; first | exact hg | exact rfl | (simp; done) | (simp at hg ⊢; assumption)) | omega | decide | exact is2_c _ _ _ | exact is1_c _ _ | exact isS_c _ _ | exact isB_c _ _ | exact Nat.le_refl _ | assumption | exact mulLe (by decide) (by omega) | exact mulLe2 (by decide) (by omega) (by omega) | (intros; simp only [BL] at *; omega) | (intros; (try simp only [BL] at *); (try simp only [DL] at *); omega) | (intros; simp only [BL] at *; rw [wr_id (by omega) (by omega)]; omega) | (intro h1 h2; exact Bool.and_eq_true_iff.2 ⟨h1, h2⟩) | first | exact ⟨isR_c r, hr⟩ | exact ⟨isSt_c s _, hs⟩ | exact ⟨isSt_c s _, hs.1⟩ | (intros; simp_all; done))); conv => whnf)
    | (refine Or.inr (And.intro rfl ?_); first | (refine congrArg intV ?_) | (refine congrArg boolV ?_) | (refine tupII ?_ ?_) | (refine tupIII ?_ ?_ ?_) | (refine tupU ?_ ?_ ?_ ?_ ?_) | exact rfl))
  · have h0 : ¬ rlsE r = 0 := hb
    have hE : exE r s nm = rlsE r := if_pos h0
    exact .inr ⟨rfl, .inl ⟨by rw [hE]; exact h0, by rw [hE]; rfl⟩⟩
  · rename_i h1
    have h1 : rlsE r = 0 := h1
    have h0 : ¬ stsE s = 0 := hb
    have hE : exE r s nm = stsE s := by unfold exE; rw [if_neg (fun h => h h1), if_pos h0]
    exact .inr ⟨rfl, .inl ⟨by rw [hE]; exact h0, by rw [hE]; rfl⟩⟩
  · rename_i h1 h2
    have h1 : rlsE r = 0 := h1
    have h2 : stsE s = 0 := h2
    have h0 : sIx s nm < 0 := hb
    have hE : exE r s nm = 8 := by unfold exE; rw [if_neg (fun h => h h1), if_neg (fun h => h h2), if_pos h0]
    exact .inr ⟨rfl, .inl ⟨by rw [hE]; decide, by rw [hE]; rfl⟩⟩
  rename_i h1 h2
  have h1 : rlsE r = 0 := h1
  have h2 : stsE s = 0 := h2
  have h0 : ¬ sIx s nm < 0 := hb
  have hE : exE r s nm = 0 := by unfold exE; rw [if_neg (fun h => h h1), if_neg (fun h => h h2), if_neg h0]
  clear hb
  obtain ⟨hu, hs32⟩ := unq_of h2
  obtain ⟨hr24, hrk⟩ := rlsE_zero h1
  refine LoopG.nil 12 3 1 rfl ?_
  refine sem_loop tab_ok gamI5_ok mixed (by kernel_rfl) (O := lex) (fun i : Nat => ⟨[(1, stV s), (2, boolV cl), (3, strV nm), (12, .own 0), (29, rlV r), (30, intV r.n), (31, intV i)], [.row 3 1 (flN (fbB r s cl nm) i) false (c1 (flF (fbB r s cl nm) i))]⟩) (fun i => i ≤ r.n) (fun i => r.n - i) ⟨0, [?_], Nat.zero_le _, ?_⟩ fun i hi => ?_
  rotate_left 1
  · refine Sub.of ?_ ?_ ?_
    repeat' (first | (refine And.intro ?_ ?_) | exact trivial | exact fun _ _ _ => hsc _ _ | (exact congrArg intV (by first | with_reducible rfl | with_reducible assumption)) | exact (rfl : AV.idsLt _ _ = true) | exact (rfl : _ = AV.ren _ (.own _)) | exact (rfl : _ = AV.ren _ (.fn _ _)) | exact (rfl : _ = AV.ren _ (.gh _)) | (exact congrArg intV (by assumption)) | (refine congrArg intV ((wr_id (by omega) (by omega)).trans (by omega))) | exact rfl | (simp only [Int.toNat_natCast, Int.toNat_zero, Nat.sub_zero, Nat.zero_add]; first | exact rfl | done) | exact all0 | exact fun h => Bool.noConfusion h | exact fun _ _ _ _ => rfl | omega)
  have hfl := flN_le (fbB r s cl nm) i
  have hfs : flN (fbB r s cl nm) (i + 1) = if fbB r s cl nm i = true then flN (fbB r s cl nm) i + 1 else flN (fbB r s cl nm) i := rfl
  have hff : flF (fbB r s cl nm) (i + 1) = if fbB r s cl nm i = true then fun j => if j < flN (fbB r s cl nm) i then flF (fbB r s cl nm) i j else i else flF (fbB r s cl nm) i := rfl
  conv => whnf
  repeat' (first
    | (refine NilG.mk fun bn hbn hbx => ?_; conv => whnf)
    | (refine Both.mk ?_ ?_ <;> conv => whnf)
    | ((first | (refine MkG.box 1 rfl rfl rfl (by decide) ?_) | (refine MkG.box 2 rfl rfl rfl (by decide) ?_) | (refine MkG.box 3 rfl rfl rfl (by decide) ?_) | (refine MkG.row ?_)); conv => whnf)
    | exact trivial
    | (refine Br.mk (fun hb => ?_) (fun hb => ?_) <;> (first | (exfalso; revert hb; decide) | ((try simp only [BL] at hb) <;> (try simp only [DL] at hb) <;> conv => whnf)))
    | (refine And.intro ?_ ?_; (focus (first | exact id | exact rfl | exact trivial | (intro hg; first | exact hg | exact rfl | (simp; done) | (simp at hg ⊢; assumption)) | omega | decide | exact is2_c _ _ _ | exact is1_c _ _ | exact isS_c _ _ | exact isB_c _ _ | exact Nat.le_refl _ | assumption | exact mulLe (by decide) (by omega) | exact mulLe2 (by decide) (by omega) (by omega) | (intros; simp only [BL] at *; omega) | (intros; (try simp only [BL] at *); (try simp only [DL] at *); omega) | (intros; simp only [BL] at *; rw [wr_id (by omega) (by omega)]; omega) | (intro h1 h2; exact Bool.and_eq_true_iff.2 ⟨h1, h2⟩) | exact fun _ => ⟨isC_c _, isSt_c s _, (hrk i (by omega)).1, (hrk i (by omega)).2.1, (hrk i (by omega)).2.2, hs32⟩ | (intros; simp_all; done))); conv => whnf)
    | (refine Or.inr (And.intro rfl ?_); first | (refine congrArg intV ?_) | (refine congrArg boolV ?_) | (refine tupII ?_ ?_) | (refine tupIII ?_ ?_ ?_) | (refine tupU ?_ ?_ ?_ ?_ ?_) | exact rfl))
  · have hin : i < r.n := by omega
    have hbb : fbB r s cl nm i = true := by
      have hb' : (r.cl i = cl ∧ ((r.sw i).toList == nm.toList) = true) ∧ hoV s (r.cd i) ((r.cd i).n - 1) = false := hb
      unfold fbB
      rw [hb'.1.1, hb'.1.2, hb'.2]
      simp
    have e1 : flN (fbB r s cl nm) i + 1 = flN (fbB r s cl nm) (i + 1) := by rw [hfs, if_pos hbb]
    refine ⟨i + 1, [?_], by omega, by omega, ?_⟩
    rotate_left 1
    refine Sub.of ?_ ?_ ?_
    repeat' (first | (refine And.intro ?_ ?_) | exact trivial | exact fun _ _ _ => hsc _ _ | (exact congrArg intV (by first | with_reducible rfl | with_reducible assumption)) | exact (rfl : AV.idsLt _ _ = true) | exact (rfl : _ = AV.ren _ (.own _)) | exact (rfl : _ = AV.ren _ (.fn _ _)) | exact (rfl : _ = AV.ren _ (.gh _)) | (exact congrArg intV (by assumption)) | (refine congrArg intV ((wr_id (by omega) (by omega)).trans (by omega))) | exact rfl | (simp only [Int.toNat_natCast, Int.toNat_zero, Nat.sub_zero, Nat.zero_add]; first | exact rfl | done) | exact all0 | exact fun h => Bool.noConfusion h | exact fun _ _ _ _ => rfl | omega)
    · intro a ha b hb
      have hb : b < 1 := hb
      obtain rfl : b = 0 := by omega
      have ha : a < flN (fbB r s cl nm) i + 1 := by first | exact ha | (rw [e1]; exact ha)
      by_cases h : a < flN (fbB r s cl nm) i
      · refine (if_pos h).trans ?_
        show iL _ = iL (flF (fbB r s cl nm) (i + 1) a)
        rw [hff, if_pos hbb]
        show iL _ = iL (if a < flN (fbB r s cl nm) i then _ else _)
        rw [if_pos h]
      · obtain rfl : a = flN (fbB r s cl nm) i := by omega
        refine (if_neg h).trans ?_
        rw [Nat.sub_self]
        show iL (i : Int) = iL (flF (fbB r s cl nm) (i + 1) (flN (fbB r s cl nm) i))
        rw [hff, if_pos hbb]
        show iL _ = iL (if flN (fbB r s cl nm) i < flN (fbB r s cl nm) i then _ else _)
        rw [if_neg h]
  · have hin : i < r.n := by omega
    have hbb : fbB r s cl nm i = false := by
      have hb' : (¬r.cl i = cl ∨ ((r.sw i).toList == nm.toList) = false) ∨ hoV s (r.cd i) ((r.cd i).n - 1) = true := hb
      unfold fbB
      rcases hb' with (h | h) | h
      · rw [show (r.cl i == cl) = false by simpa using h]; rfl
      · rw [h]; simp
      · rw [h]; simp
    have hnb : ¬ fbB r s cl nm i = true := by rw [hbb]; decide
    have e1 : flN (fbB r s cl nm) i = flN (fbB r s cl nm) (i + 1) := by rw [hfs, if_neg hnb]
    refine ⟨i + 1, [?_], by omega, by omega, ?_⟩
    rotate_left 1
    refine Sub.of ?_ ?_ ?_
    repeat' (first | (refine And.intro ?_ ?_) | exact trivial | exact fun _ _ _ => hsc _ _ | (exact congrArg intV (by first | with_reducible rfl | with_reducible assumption)) | exact (rfl : AV.idsLt _ _ = true) | exact (rfl : _ = AV.ren _ (.own _)) | exact (rfl : _ = AV.ren _ (.fn _ _)) | exact (rfl : _ = AV.ren _ (.gh _)) | (exact congrArg intV (by assumption)) | (refine congrArg intV ((wr_id (by omega) (by omega)).trans (by omega))) | exact rfl | (simp only [Int.toNat_natCast, Int.toNat_zero, Nat.sub_zero, Nat.zero_add]; first | exact rfl | done) | exact all0 | exact fun h => Bool.noConfusion h | exact fun _ _ _ _ => rfl | omega)
    · intro a ha b hb
      obtain rfl : b = 0 := by omega
      show iL (flF (fbB r s cl nm) i a) = iL (flF (fbB r s cl nm) (i + 1) a)
      rw [hff, if_neg hnb]
  · have hin : i = r.n := by omega
    rw [hin]
    exact .inr ⟨rfl, .inr ⟨hE, rfl⟩⟩

def exN (r : Rls) (s : Sts) (cl : Bool) (nm : ByteArray) : Nat := if exE r s nm = 0 then flN (fbB r s cl nm) r.n else 0
theorem ilExplain1 (r : Rls) (s : Sts) (cl : Bool) (nm : ByteArray) (hr : r.ok) (hs : s.ok) : Fn1 Try.prog 80 [rlV r, stV s, boolV cl, strV nm] (.tup [.c (.sl 1 (exN r s cl nm) (c1 (flF (fbB r s cl nm) r.n))), intV (exE r s nm)]) :=
  (ilExplain r s cl nm hr hs).res fun obs v ⟨h1, h2⟩ => by
    rcases h2 with ⟨h2, rfl⟩ | ⟨h2, rfl⟩
    · refine ⟨_, ⟨h1, rfl⟩, Le1.tup (Le.cons ?_ (Le.cons (Le1.refl _) Le.nil))⟩
      rw [show exN r s cl nm = 0 from if_neg h2]
      exact Le1.nil
    · refine ⟨_, ⟨h1, rfl⟩, Le1.tup (Le.cons ?_ (Le.cons (by rw [h2]; exact Le1.refl _) Le.nil))⟩
      rw [show exN r s cl nm = flN (fbB r s cl nm) r.n from if_pos h2]
      exact Le1.refl _

theorem ilPermitted (r : Rls) (s : Sts) (cl : Bool) (nm : ByteArray) (hr : r.ok) (hs : s.ok) : Fn1 Try.prog 50 [rlV r, stV s, boolV cl, strV nm] (.tup [boolV ((exE r s nm == 0) && ((exN r s cl nm : Int) == 0)), intV (exE r s nm)]) := by
  refine fn_of_wpx (O := lex) tab_ok gamI5_ok mixed Try.func50 (by kernel_rfl) rfl rfl rfl (by simp [Try.ntmps50]) (by kernel_rfl) ?_
  conv => whnf
  repeat' (first
    | (refine NilG.mk fun bn hbn hbx => ?_; conv => whnf)
    | (refine Both.mk ?_ ?_ <;> conv => whnf)
    | ((first | (refine MkG.box 1 rfl rfl rfl (by decide) ?_) | (refine MkG.box 2 rfl rfl rfl (by decide) ?_) | (refine MkG.box 3 rfl rfl rfl (by decide) ?_) | (refine MkG.row ?_)); conv => whnf)
    | exact trivial
    | (refine Br.mk (fun hb => ?_) (fun hb => ?_) <;> (first | (exfalso; revert hb; decide) | ((try simp only [BL] at hb) <;> (try simp only [DL] at hb) <;> conv => whnf)))
    | (refine And.intro ?_ ?_; (focus (first | exact id | exact rfl | exact trivial | (intro hg; first | exact hg | exact rfl | (simp; done) | (simp at hg ⊢; assumption)) | omega | decide | exact is2_c _ _ _ | exact is1_c _ _ | exact isS_c _ _ | exact isB_c _ _ | exact Nat.le_refl _ | assumption | exact mulLe (by decide) (by omega) | exact mulLe2 (by decide) (by omega) (by omega) | (intros; simp only [BL] at *; omega) | (intros; (try simp only [BL] at *); (try simp only [DL] at *); omega) | (intros; simp only [BL] at *; rw [wr_id (by omega) (by omega)]; omega) | (intro h1 h2; exact Bool.and_eq_true_iff.2 ⟨h1, h2⟩) | (intros; simp_all; done))); conv => whnf)
    | (refine Or.inr (And.intro rfl ?_); first | (refine congrArg intV ?_) | (refine congrArg boolV ?_) | (refine tupII ?_ ?_) | (refine tupIII ?_ ?_ ?_) | (refine tupU ?_ ?_ ?_ ?_ ?_) | exact rfl))
  refine CallG.mk (Fn.mono (ilExplain1 r s cl nm hr hs) ?_)
  rintro obs r ⟨rfl, rfl⟩
  conv => whnf
  repeat' (first
    | (refine NilG.mk fun bn hbn hbx => ?_; conv => whnf)
    | (refine Both.mk ?_ ?_ <;> conv => whnf)
    | ((first | (refine MkG.box 1 rfl rfl rfl (by decide) ?_) | (refine MkG.box 2 rfl rfl rfl (by decide) ?_) | (refine MkG.box 3 rfl rfl rfl (by decide) ?_) | (refine MkG.row ?_)); conv => whnf)
    | exact trivial
    | (refine Br.mk (fun hb => ?_) (fun hb => ?_) <;> (first | (exfalso; revert hb; decide) | ((try simp only [BL] at hb) <;> (try simp only [DL] at hb) <;> conv => whnf)))
    | (refine And.intro ?_ ?_; (focus (first | exact id | exact rfl | exact trivial | (intro hg; first | exact hg | exact rfl | (simp; done) | (simp at hg ⊢; assumption)) | omega | decide | exact is2_c _ _ _ | exact is1_c _ _ | exact isS_c _ _ | exact isB_c _ _ | exact Nat.le_refl _ | assumption | exact mulLe (by decide) (by omega) | exact mulLe2 (by decide) (by omega) (by omega) | (intros; simp only [BL] at *; omega) | (intros; (try simp only [BL] at *); (try simp only [DL] at *); omega) | (intros; simp only [BL] at *; rw [wr_id (by omega) (by omega)]; omega) | (intro h1 h2; exact Bool.and_eq_true_iff.2 ⟨h1, h2⟩) | (intros; simp_all; done))); conv => whnf)
    | (refine Or.inr (And.intro rfl ?_); first | (refine congrArg intV ?_) | (refine congrArg boolV ?_) | (refine tupII ?_ ?_) | (refine tupIII ?_ ?_ ?_) | (refine tupU ?_ ?_ ?_ ?_ ?_) | exact rfl))

theorem rfForbids (r : Rls) (s : Sts) (cl : Bool) (nm : ByteArray) (h1 : rlsE r = 0) (h2 : stsE s = 0) : Fn Try.prog 95 [rlV r, stV s, boolV cl, strV nm] (fun obs v => obs = [] ∧ v = .c (.sl 1 (flN (fbB r s cl nm) r.n) (c1 (flF (fbB r s cl nm) r.n)))) := by
  refine fn_of_wpx (O := lex) tab_ok gamI5_ok mixed Try.func95 (by kernel_rfl) rfl rfl rfl (by simp [Try.ntmps95]) (by kernel_rfl) ?_
  obtain ⟨hu, hs32⟩ := unq_of h2
  obtain ⟨hr24, hrk⟩ := rlsE_zero h1
  conv => whnf
  repeat' (first
    | (refine NilG.mk fun bn hbn hbx => ?_; conv => whnf)
    | (refine Both.mk ?_ ?_ <;> conv => whnf)
    | ((first | (refine MkG.box 1 rfl rfl rfl (by decide) ?_) | (refine MkG.box 2 rfl rfl rfl (by decide) ?_) | (refine MkG.box 3 rfl rfl rfl (by decide) ?_) | (refine MkG.row ?_)); conv => whnf)
    | exact trivial
    | (refine Br.mk (fun hb => ?_) (fun hb => ?_) <;> (first | (exfalso; revert hb; decide) | ((try simp only [BL] at hb) <;> (try simp only [DL] at hb) <;> conv => whnf)))
    | (refine And.intro ?_ ?_; (focus (first | exact id | exact rfl | exact trivial | (intro hg; first | exact hg | exact rfl | (simp; done) | (simp at hg ⊢; assumption)) | omega | decide | exact is2_c _ _ _ | exact is1_c _ _ | exact isS_c _ _ | exact isB_c _ _ | exact Nat.le_refl _ | assumption | exact mulLe (by decide) (by omega) | exact mulLe2 (by decide) (by omega) (by omega) | (intros; simp only [BL] at *; omega) | (intros; (try simp only [BL] at *); (try simp only [DL] at *); omega) | (intros; simp only [BL] at *; rw [wr_id (by omega) (by omega)]; omega) | (intro h1 h2; exact Bool.and_eq_true_iff.2 ⟨h1, h2⟩) | (intros; simp_all; done))); conv => whnf)
    | (refine Or.inr (And.intro rfl ?_); first | (refine congrArg intV ?_) | (refine congrArg boolV ?_) | (refine tupII ?_ ?_) | (refine tupIII ?_ ?_ ?_) | (refine tupU ?_ ?_ ?_ ?_ ?_) | exact rfl))
  refine LoopG.nil 9 3 1 rfl ?_
  refine sem_loop tab_ok gamI5_ok mixed (by kernel_rfl) (O := lex) (fun i : Nat => ⟨[(1, stV s), (2, boolV cl), (3, strV nm), (9, .own 0), (12, rlV r), (13, intV r.n), (14, intV i)], [.row 3 1 (flN (fbB r s cl nm) i) false (c1 (flF (fbB r s cl nm) i))]⟩) (fun i => i ≤ r.n) (fun i => r.n - i) ⟨0, [?_], Nat.zero_le _, ?_⟩ fun i hi => ?_
  rotate_left 1
  · refine Sub.of ?_ ?_ ?_
    repeat' (first | (refine And.intro ?_ ?_) | exact trivial | exact fun _ _ _ => hsc _ _ | (exact congrArg intV (by first | with_reducible rfl | with_reducible assumption)) | exact (rfl : AV.idsLt _ _ = true) | exact (rfl : _ = AV.ren _ (.own _)) | exact (rfl : _ = AV.ren _ (.fn _ _)) | exact (rfl : _ = AV.ren _ (.gh _)) | (exact congrArg intV (by assumption)) | (refine congrArg intV ((wr_id (by omega) (by omega)).trans (by omega))) | exact rfl | (simp only [Int.toNat_natCast, Int.toNat_zero, Nat.sub_zero, Nat.zero_add]; first | exact rfl | done) | exact all0 | exact fun h => Bool.noConfusion h | exact fun _ _ _ _ => rfl | omega)
  have hfl := flN_le (fbB r s cl nm) i
  have hfs : flN (fbB r s cl nm) (i + 1) = if fbB r s cl nm i = true then flN (fbB r s cl nm) i + 1 else flN (fbB r s cl nm) i := rfl
  have hff : flF (fbB r s cl nm) (i + 1) = if fbB r s cl nm i = true then fun j => if j < flN (fbB r s cl nm) i then flF (fbB r s cl nm) i j else i else flF (fbB r s cl nm) i := rfl
  have hwn : i < r.n → IntKind.i64.wrap (((r.cd i).n : Int) - 1) = ((r.cd i).n - 1 : Nat) := fun h => by have := hrk i h; exact (wr_id (by omega) (by omega)).trans (by omega)
  have hkk : i < r.n → 0 ≤ IntKind.i64.wrap (((r.cd i).n : Int) - 1) ∧ IntKind.i64.wrap (((r.cd i).n : Int) - 1) < (r.cd i).n := fun h => by have := hrk i h; rw [hwn h]; omega
  conv => whnf
  repeat' (first
    | (refine NilG.mk fun bn hbn hbx => ?_; conv => whnf)
    | (refine Both.mk ?_ ?_ <;> conv => whnf)
    | ((first | (refine MkG.box 1 rfl rfl rfl (by decide) ?_) | (refine MkG.box 2 rfl rfl rfl (by decide) ?_) | (refine MkG.box 3 rfl rfl rfl (by decide) ?_) | (refine MkG.row ?_)); conv => whnf)
    | exact trivial
    | (refine Br.mk (fun hb => ?_) (fun hb => ?_) <;> (first | (exfalso; revert hb; decide) | ((try simp only [BL] at hb) <;> (try simp only [DL] at hb) <;> conv => whnf)))
    | (refine And.intro ?_ ?_; (focus (first | exact id | exact rfl | exact trivial | (intro hg; first | exact hg | exact rfl | (simp; done) | (simp at hg ⊢; assumption)) | omega | decide | exact is2_c _ _ _ | exact is1_c _ _ | exact isS_c _ _ | exact isB_c _ _ | exact Nat.le_refl _ | assumption | exact mulLe (by decide) (by omega) | exact mulLe2 (by decide) (by omega) (by omega) | (intros; simp only [BL] at *; omega) | (intros; (try simp only [BL] at *); (try simp only [DL] at *); omega) | (intros; simp only [BL] at *; rw [wr_id (by omega) (by omega)]; omega) | (intro h1 h2; exact Bool.and_eq_true_iff.2 ⟨h1, h2⟩) | exact fun _ => ⟨isC_c _, isSt_c s _, (hrk i (by omega)).1, (hrk i (by omega)).2.2, hu, hs32, (hkk (by omega)).1, (hkk (by omega)).2⟩ | (intros; simp_all; done))); conv => whnf)
    | (refine Or.inr (And.intro rfl ?_); first | (refine congrArg intV ?_) | (refine congrArg boolV ?_) | (refine tupII ?_ ?_) | (refine tupIII ?_ ?_ ?_) | (refine tupU ?_ ?_ ?_ ?_ ?_) | exact rfl))
  · have hin : i < r.n := by omega
    have hbb : fbB r s cl nm i = true := by
      have hb' : (r.cl i = cl ∧ ((r.sw i).toList == nm.toList) = true) ∧ hoV s (r.cd i) (IntKind.i64.wrap (((r.cd i).n : Int) - 1)).toNat = false := hb
      rw [hwn hin, Int.toNat_natCast] at hb'
      unfold fbB
      rw [hb'.1.1, hb'.1.2, hb'.2]
      simp
    have e1 : flN (fbB r s cl nm) i + 1 = flN (fbB r s cl nm) (i + 1) := by rw [hfs, if_pos hbb]
    refine ⟨i + 1, [?_], by omega, by omega, ?_⟩
    rotate_left 1
    refine Sub.of ?_ ?_ ?_
    repeat' (first | (refine And.intro ?_ ?_) | exact trivial | exact fun _ _ _ => hsc _ _ | (exact congrArg intV (by first | with_reducible rfl | with_reducible assumption)) | exact (rfl : AV.idsLt _ _ = true) | exact (rfl : _ = AV.ren _ (.own _)) | exact (rfl : _ = AV.ren _ (.fn _ _)) | exact (rfl : _ = AV.ren _ (.gh _)) | (exact congrArg intV (by assumption)) | (refine congrArg intV ((wr_id (by omega) (by omega)).trans (by omega))) | exact rfl | (simp only [Int.toNat_natCast, Int.toNat_zero, Nat.sub_zero, Nat.zero_add]; first | exact rfl | done) | exact all0 | exact fun h => Bool.noConfusion h | exact fun _ _ _ _ => rfl | omega)
    · intro a ha b hb
      have hb : b < 1 := hb
      obtain rfl : b = 0 := by omega
      have ha : a < flN (fbB r s cl nm) i + 1 := by first | exact ha | (rw [e1]; exact ha)
      by_cases h : a < flN (fbB r s cl nm) i
      · refine (if_pos h).trans ?_
        show iL _ = iL (flF (fbB r s cl nm) (i + 1) a)
        rw [hff, if_pos hbb]
        show iL _ = iL (if a < flN (fbB r s cl nm) i then _ else _)
        rw [if_pos h]
      · obtain rfl : a = flN (fbB r s cl nm) i := by omega
        refine (if_neg h).trans ?_
        rw [Nat.sub_self]
        show iL (i : Int) = iL (flF (fbB r s cl nm) (i + 1) (flN (fbB r s cl nm) i))
        rw [hff, if_pos hbb]
        show iL _ = iL (if flN (fbB r s cl nm) i < flN (fbB r s cl nm) i then _ else _)
        rw [if_neg h]
  · have hin : i < r.n := by omega
    have hbb : fbB r s cl nm i = false := by
      have hb' : (¬r.cl i = cl ∨ ((r.sw i).toList == nm.toList) = false) ∨ hoV s (r.cd i) (IntKind.i64.wrap (((r.cd i).n : Int) - 1)).toNat = true := hb
      rw [hwn hin, Int.toNat_natCast] at hb'
      unfold fbB
      rcases hb' with (h | h) | h
      · rw [show (r.cl i == cl) = false by simpa using h]; rfl
      · rw [h]; simp
      · rw [h]; simp
    have hnb : ¬ fbB r s cl nm i = true := by rw [hbb]; decide
    have e1 : flN (fbB r s cl nm) i = flN (fbB r s cl nm) (i + 1) := by rw [hfs, if_neg hnb]
    refine ⟨i + 1, [?_], by omega, by omega, ?_⟩
    rotate_left 1
    refine Sub.of ?_ ?_ ?_
    repeat' (first | (refine And.intro ?_ ?_) | exact trivial | exact fun _ _ _ => hsc _ _ | (exact congrArg intV (by first | with_reducible rfl | with_reducible assumption)) | exact (rfl : AV.idsLt _ _ = true) | exact (rfl : _ = AV.ren _ (.own _)) | exact (rfl : _ = AV.ren _ (.fn _ _)) | exact (rfl : _ = AV.ren _ (.gh _)) | (exact congrArg intV (by assumption)) | (refine congrArg intV ((wr_id (by omega) (by omega)).trans (by omega))) | exact rfl | (simp only [Int.toNat_natCast, Int.toNat_zero, Nat.sub_zero, Nat.zero_add]; first | exact rfl | done) | exact all0 | exact fun h => Bool.noConfusion h | exact fun _ _ _ _ => rfl | omega)
    · intro a ha b hb
      obtain rfl : b = 0 := by omega
      show iL (flF (fbB r s cl nm) i a) = iL (flF (fbB r s cl nm) (i + 1) a)
      rw [hff, if_neg hnb]
  · have hin : i = r.n := by omega
    rw [hin]
    exact .inr ⟨rfl, rfl⟩
end Go.Proofs.Ytemfikdogdadnaa
