/-
  The package unit: rules, states, and the next state; and the references' forms of these.
-/
import Derived.Test.YtemfikdogdadnaaName
namespace Go.Proofs.Ytemfikdogdadnaa
open Go.RowKit

structure Rul where
  nm : ByteArray
  le : Int
  mo : Int
  up : Int
  dn : Int
  mi : Int
  mf : Int
  st : Int
abbrev rV (r : Rul) : AV := .agg [strV r.nm, intV r.le, intV r.mo, intV r.up, intV r.dn, intV r.mi, intV r.mf, intV r.st]
abbrev uV (on : Bool) (si po : Int) : AV := .agg [boolV on, intV si, intV po]

def outU (n low high : Int) : Bool := decide (n < low) || decide (n > high)
theorem uout (n low high : Int) : Fn1 Try.prog 90 [intV n, intV low, intV high] (boolV (outU n low high)) := by
  refine fn_of_wpx (O := lex) tab_ok (Γ := fun _ => none) (fun _ _ h => by cases h) mixed Try.func90 (by kernel_rfl) rfl rfl rfl (by simp [Try.ntmps90]) (by kernel_rfl) ?_
  conv => whnf
  repeat' (first
    | (refine NilG.mk fun bn hbn hbx => ?_; conv => whnf)
    | (refine Both.mk ?_ ?_ <;> conv => whnf)
    | ((first | (refine MkG.box 1 rfl rfl rfl (by decide) ?_) | (refine MkG.box 2 rfl rfl rfl (by decide) ?_) | (refine MkG.box 3 rfl rfl rfl (by decide) ?_) | (refine MkG.row ?_)); conv => whnf)
    | exact trivial
    | (refine Br.mk (fun hb => ?_) (fun hb => ?_) <;> (first | (exfalso; revert hb; decide) | ((try simp only [BL] at hb) <;> (try simp only [DL] at hb) <;> conv => whnf)))
    | (refine And.intro ?_ ?_; (focus (first | exact id | exact rfl | exact trivial | (intro hg; first | exact hg | exact rfl | (simp; done) | (simp at hg ⊢; assumption)) | omega | decide | exact is2_c _ _ _ | exact is1_c _ _ | exact isS_c _ _ | exact isB_c _ _ | exact Nat.le_refl _ | assumption | exact mulLe (by decide) (by omega) | exact mulLe2 (by decide) (by omega) (by omega) | (intros; simp only [BL] at *; omega) | (intros; (try simp only [BL] at *); (try simp only [DL] at *); omega) | (intros; simp only [BL] at *; rw [wr_id (by omega) (by omega)]; omega) | (intro h1 h2; exact Bool.and_eq_true_iff.2 ⟨h1, h2⟩) | (intros; simp_all; done))); conv => whnf)
    | (refine Or.inr (And.intro rfl ?_); first | (refine congrArg intV ?_) | (refine congrArg boolV ?_) | (refine tupII ?_ ?_) | (refine tupIII ?_ ?_ ?_) | (refine tupU ?_ ?_ ?_ ?_ ?_) | exact rfl))
  · rfl

def okR (r : Rul) : Prop := 0 ≤ r.le ∧ r.le ≤ r.mo ∧ r.mo ≤ 100000 ∧ 1 ≤ r.up ∧ r.up ≤ 100000 ∧ 1 ≤ r.dn ∧ r.dn ≤ 100000 ∧ 1 ≤ r.mi ∧ r.mi ≤ 24 ∧ 1 ≤ r.mf ∧ r.mf ≤ 24 ∧ 0 ≤ r.st ∧ r.st ≤ 1000000
instance (r : Rul) : Decidable (okR r) := by unfold okR; infer_instance
def rulE (r : Rul) : Int := if nameB r.nm = false then 6 else if okR r then 0 else 4
def staE (r : Rul) (on : Bool) (si po : Int) : Int :=
  if rulE r ≠ 0 then rulE r else if (si < 1 ∨ 200000 < si) ∨ on = true ∧ (po < r.le ∨ r.mo < po) then 4 else if on = false ∧ po ≠ 0 then 3 else 0

def sR (P : Rul → Prop) (g : Rul → AV) : List AV → Sd × AV
  | [.agg [.c (.v (.string nm)), .c (.v (.int .i64 a)), .c (.v (.int .i64 b)), .c (.v (.int .i64 c)), .c (.v (.int .i64 d)), .c (.v (.int .i64 e)), .c (.v (.int .i64 f)), .c (.v (.int .i64 h))]] => (.p (P ⟨nm, a, b, c, d, e, f, h⟩), g ⟨nm, a, b, c, d, e, f, h⟩)
  | _ => (.p False, .top)
theorem sR_ok {f : FuncId} {P} {g} (h : ∀ r, P r → Fn1 Try.prog f [rV r] (g r)) : ∀ args, (sR P g args).1.ok → (sR P g args).2.exact.isSome = true → Fn1 Try.prog f args (sR P g args).2 := fun args hs _ => by
  unfold sR at hs ⊢
  split at hs
  · exact h _ hs
  · exact hs.elim
def sRU (P : Rul → Bool → Int → Int → Prop) (g : Rul → Bool → Int → Int → AV) : List AV → Sd × AV
  | [.agg [.c (.v (.string nm)), .c (.v (.int .i64 a)), .c (.v (.int .i64 b)), .c (.v (.int .i64 c)), .c (.v (.int .i64 d)), .c (.v (.int .i64 e)), .c (.v (.int .i64 f)), .c (.v (.int .i64 h))], .agg [.c (.v (.bool on)), .c (.v (.int .i64 si)), .c (.v (.int .i64 po))]] =>
    (.p (P ⟨nm, a, b, c, d, e, f, h⟩ on si po), g ⟨nm, a, b, c, d, e, f, h⟩ on si po)
  | _ => (.p False, .top)
theorem sRU_ok {f : FuncId} {P} {g} (h : ∀ r on si po, P r on si po → Fn1 Try.prog f [rV r, uV on si po] (g r on si po)) : ∀ args, (sRU P g args).1.ok → (sRU P g args).2.exact.isSome = true → Fn1 Try.prog f args (sRU P g args).2 := fun args hs _ => by
  unfold sRU at hs ⊢
  split at hs
  · exact h _ _ _ _ hs
  · exact hs.elim
def sRUi (P : Rul → Bool → Int → Int → Int → Prop) (g : Rul → Bool → Int → Int → Int → AV) : List AV → Sd × AV
  | [.agg [.c (.v (.string nm)), .c (.v (.int .i64 a)), .c (.v (.int .i64 b)), .c (.v (.int .i64 c)), .c (.v (.int .i64 d)), .c (.v (.int .i64 e)), .c (.v (.int .i64 f)), .c (.v (.int .i64 h))], .agg [.c (.v (.bool on)), .c (.v (.int .i64 si)), .c (.v (.int .i64 po))], .c (.v (.int .i64 x))] =>
    (.p (P ⟨nm, a, b, c, d, e, f, h⟩ on si po x), g ⟨nm, a, b, c, d, e, f, h⟩ on si po x)
  | _ => (.p False, .top)
theorem sRUi_ok {f : FuncId} {P} {g} (h : ∀ r on si po x, P r on si po x → Fn1 Try.prog f [rV r, uV on si po, intV x] (g r on si po x)) : ∀ args, (sRUi P g args).1.ok → (sRUi P g args).2.exact.isSome = true → Fn1 Try.prog f args (sRUi P g args).2 := fun args hs _ => by
  unfold sRUi at hs ⊢
  split at hs
  · exact h _ _ _ _ _ hs
  · exact hs.elim

def gamU1 : Gam := fun f => match f with
  | 90 => some (s3 outU)
  | 10 => some (s3 inB)
  | 115 => some (s1S (fun s => s.size ≤ maxLen) nameB)
  | 38 => some (s1S (fun s => s.size ≤ maxLen) nameB)
  | _ => none
theorem gamU1_ok : GOk Try.prog gamU1 := fun f g h => by
  unfold gamU1 at h
  split at h
  · injection h with h; subst h; exact s3_ok uout
  · injection h with h; subst h; exact s3_ok in3
  · injection h with h; subst h; exact s1S_ok named3
  · injection h with h; subst h; exact s1S_ok name1
  · cases h

theorem uCheck (r : Rul) (hs : r.nm.size ≤ maxLen) : Fn1 Try.prog 89 [rV r] (intV (rulE r)) := by
  refine fn_of_wpx (O := lex) tab_ok gamU1_ok mixed Try.func89 (by kernel_rfl) rfl rfl rfl (by simp [Try.ntmps89]) (by kernel_rfl) ?_
  conv => whnf
  repeat' (first
    | (refine NilG.mk fun bn hbn hbx => ?_; conv => whnf)
    | (refine Both.mk ?_ ?_ <;> conv => whnf)
    | ((first | (refine MkG.box 1 rfl rfl rfl (by decide) ?_) | (refine MkG.box 2 rfl rfl rfl (by decide) ?_) | (refine MkG.box 3 rfl rfl rfl (by decide) ?_) | (refine MkG.row ?_)); conv => whnf)
    | exact trivial
    | (refine Br.mk (fun hb => ?_) (fun hb => ?_) <;> (first | (exfalso; revert hb; decide) | ((try simp only [BL] at hb) <;> (try simp only [DL] at hb) <;> conv => whnf)))
    | (refine And.intro ?_ ?_; (focus (first | exact id | exact rfl | exact trivial | (intro hg; first | exact hg | exact rfl | (simp; done) | (simp at hg ⊢; assumption)) | omega | decide | exact is2_c _ _ _ | exact is1_c _ _ | exact isS_c _ _ | exact isB_c _ _ | exact Nat.le_refl _ | assumption | exact mulLe (by decide) (by omega) | exact mulLe2 (by decide) (by omega) (by omega) | (intros; simp only [BL] at *; omega) | (intros; (try simp only [BL] at *); (try simp only [DL] at *); omega) | (intros; simp only [BL] at *; rw [wr_id (by omega) (by omega)]; omega) | (intro h1 h2; exact Bool.and_eq_true_iff.2 ⟨h1, h2⟩) | (intros; simp_all; done))); conv => whnf)
    | (refine Or.inr (And.intro rfl ?_); first | (refine congrArg intV ?_) | (refine congrArg boolV ?_) | (refine tupII ?_ ?_) | (refine tupIII ?_ ?_ ?_) | (refine tupU ?_ ?_ ?_ ?_ ?_) | exact rfl))
  · simp only [rulE]; rw [if_pos hb]
  · rename_i h1
    simp only [outU, BL] at hb
    simp only [rulE, h1]
    rw [if_neg (by decide), if_neg (by unfold okR; omega)]
  · rename_i h1
    simp only [outU, BL] at hb
    simp only [rulE, h1]
    rw [if_neg (by decide), if_pos (by unfold okR; omega)]

theorem uRule (r : Rul) (hs : r.nm.size ≤ maxLen) : Fn1 Try.prog 114 [rV r] (intV (rulE r)) := by
  refine fn_of_wpx (O := lex) tab_ok gamU1_ok mixed Try.func114 (by kernel_rfl) rfl rfl rfl (by simp [Try.ntmps114]) (by kernel_rfl) ?_
  conv => whnf
  repeat' (first
    | (refine NilG.mk fun bn hbn hbx => ?_; conv => whnf)
    | (refine Both.mk ?_ ?_ <;> conv => whnf)
    | ((first | (refine MkG.box 1 rfl rfl rfl (by decide) ?_) | (refine MkG.box 2 rfl rfl rfl (by decide) ?_) | (refine MkG.box 3 rfl rfl rfl (by decide) ?_) | (refine MkG.row ?_)); conv => whnf)
    | exact trivial
    | (refine Br.mk (fun hb => ?_) (fun hb => ?_) <;> (first | (exfalso; revert hb; decide) | ((try simp only [BL] at hb) <;> (try simp only [DL] at hb) <;> conv => whnf)))
    | (refine And.intro ?_ ?_; (focus (first | exact id | exact rfl | exact trivial | (intro hg; first | exact hg | exact rfl | (simp; done) | (simp at hg ⊢; assumption)) | omega | decide | exact is2_c _ _ _ | exact is1_c _ _ | exact isS_c _ _ | exact isB_c _ _ | exact Nat.le_refl _ | assumption | exact mulLe (by decide) (by omega) | exact mulLe2 (by decide) (by omega) (by omega) | (intros; simp only [BL] at *; omega) | (intros; (try simp only [BL] at *); (try simp only [DL] at *); omega) | (intros; simp only [BL] at *; rw [wr_id (by omega) (by omega)]; omega) | (intro h1 h2; exact Bool.and_eq_true_iff.2 ⟨h1, h2⟩) | (intros; simp_all; done))); conv => whnf)
    | (refine Or.inr (And.intro rfl ?_); first | (refine congrArg intV ?_) | (refine congrArg boolV ?_) | (refine tupII ?_ ?_) | (refine tupIII ?_ ?_ ?_) | (refine tupU ?_ ?_ ?_ ?_ ?_) | exact rfl))
  · simp only [rulE]; rw [if_pos hb]
  · rename_i h1
    simp only [rulE, h1]
    rw [if_neg (by decide), if_neg (by unfold okR; omega)]
  · rename_i h1
    simp only [rulE, h1]
    rw [if_neg (by decide), if_pos (by unfold okR; omega)]

def gamU2 : Gam := fun f => match f with
  | 90 => some (s3 outU)
  | 10 => some (s3 inB)
  | 89 => some (sR (fun r => r.nm.size ≤ maxLen) fun r => intV (rulE r))
  | 114 => some (sR (fun r => r.nm.size ≤ maxLen) fun r => intV (rulE r))
  | _ => none
theorem gamU2_ok : GOk Try.prog gamU2 := fun f g h => by
  unfold gamU2 at h
  split at h
  · injection h with h; subst h; exact s3_ok uout
  · injection h with h; subst h; exact s3_ok in3
  · injection h with h; subst h; exact sR_ok uCheck
  · injection h with h; subst h; exact sR_ok uRule
  · cases h

theorem uState (r : Rul) (on : Bool) (si po : Int) (hs : r.nm.size ≤ maxLen) : Fn1 Try.prog 55 [rV r, uV on si po] (intV (staE r on si po)) := by
  refine fn_of_wpx (O := lex) tab_ok gamU2_ok mixed Try.func55 (by kernel_rfl) rfl rfl rfl (by simp [Try.ntmps55]) (by kernel_rfl) ?_
  conv => whnf
  repeat' (first
    | (refine NilG.mk fun bn hbn hbx => ?_; conv => whnf)
    | (refine Both.mk ?_ ?_ <;> conv => whnf)
    | ((first | (refine MkG.box 1 rfl rfl rfl (by decide) ?_) | (refine MkG.box 2 rfl rfl rfl (by decide) ?_) | (refine MkG.box 3 rfl rfl rfl (by decide) ?_) | (refine MkG.row ?_)); conv => whnf)
    | exact trivial
    | (refine Br.mk (fun hb => ?_) (fun hb => ?_) <;> (first | (exfalso; revert hb; decide) | ((try simp only [BL] at hb) <;> (try simp only [DL] at hb) <;> conv => whnf)))
    | (refine And.intro ?_ ?_; (focus (first | exact id | exact rfl | exact trivial | (intro hg; first | exact hg | exact rfl | (simp; done) | (simp at hg ⊢; assumption)) | omega | decide | exact is2_c _ _ _ | exact is1_c _ _ | exact isS_c _ _ | exact isB_c _ _ | exact Nat.le_refl _ | assumption | exact mulLe (by decide) (by omega) | exact mulLe2 (by decide) (by omega) (by omega) | (intros; simp only [BL] at *; omega) | (intros; (try simp only [BL] at *); (try simp only [DL] at *); omega) | (intros; simp only [BL] at *; rw [wr_id (by omega) (by omega)]; omega) | (intro h1 h2; exact Bool.and_eq_true_iff.2 ⟨h1, h2⟩) | exact hs | (intros; simp_all; done))); conv => whnf)
    | (refine Or.inr (And.intro rfl ?_); first | (refine congrArg intV ?_) | (refine congrArg boolV ?_) | (refine tupII ?_ ?_) | (refine tupIII ?_ ?_ ?_) | (refine tupU ?_ ?_ ?_ ?_ ?_) | exact rfl))
  · unfold staE
    rw [if_pos hb]
  · rename_i h1
    simp only [outU, BL] at hb
    unfold staE
    rw [if_neg (fun h => h h1), if_pos (by rcases hb with hb | ⟨ho, hb⟩ <;> first | exact .inl (by omega) | exact .inr ⟨ho, by omega⟩)]
  · rename_i h1 h2
    simp only [outU, BL] at h2
    unfold staE
    rw [if_neg (fun h => h h1), if_neg (by intro hh; obtain ⟨h2a, h2b⟩ := h2; rcases hh with hh | ⟨ho, hh⟩ <;> rcases h2b with h2b | h2b <;> first | omega | (subst ho; cases h2b)), if_pos hb]
  · rename_i h1 h2
    simp only [outU, BL] at h2
    unfold staE
    rw [if_neg (fun h => h h1), if_neg (by intro hh; obtain ⟨h2a, h2b⟩ := h2; rcases hh with hh | ⟨ho, hh⟩ <;> rcases h2b with h2b | h2b <;> first | omega | (subst ho; cases h2b)), if_neg (by rintro ⟨ho, hh⟩; rcases hb with hb | hb <;> first | exact hh hb | (subst ho; cases hb))]

theorem uStateError (r : Rul) (on : Bool) (si po : Int) (hs : r.nm.size ≤ maxLen) : Fn1 Try.prog 96 [rV r, uV on si po] (intV (staE r on si po)) := by
  refine fn_of_wpx (O := lex) tab_ok gamU2_ok mixed Try.func96 (by kernel_rfl) rfl rfl rfl (by simp [Try.ntmps96]) (by kernel_rfl) ?_
  conv => whnf
  repeat' (first
    | (refine NilG.mk fun bn hbn hbx => ?_; conv => whnf)
    | (refine Both.mk ?_ ?_ <;> conv => whnf)
    | ((first | (refine MkG.box 1 rfl rfl rfl (by decide) ?_) | (refine MkG.box 2 rfl rfl rfl (by decide) ?_) | (refine MkG.box 3 rfl rfl rfl (by decide) ?_) | (refine MkG.row ?_)); conv => whnf)
    | exact trivial
    | (refine Br.mk (fun hb => ?_) (fun hb => ?_) <;> (first | (exfalso; revert hb; decide) | ((try simp only [BL] at hb) <;> (try simp only [DL] at hb) <;> conv => whnf)))
    | (refine And.intro ?_ ?_; (focus (first | exact id | exact rfl | exact trivial | (intro hg; first | exact hg | exact rfl | (simp; done) | (simp at hg ⊢; assumption)) | omega | decide | exact is2_c _ _ _ | exact is1_c _ _ | exact isS_c _ _ | exact isB_c _ _ | exact Nat.le_refl _ | assumption | exact mulLe (by decide) (by omega) | exact mulLe2 (by decide) (by omega) (by omega) | (intros; simp only [BL] at *; omega) | (intros; (try simp only [BL] at *); (try simp only [DL] at *); omega) | (intros; simp only [BL] at *; rw [wr_id (by omega) (by omega)]; omega) | (intro h1 h2; exact Bool.and_eq_true_iff.2 ⟨h1, h2⟩) | exact hs | (intros; simp_all; done))); conv => whnf)
    | (refine Or.inr (And.intro rfl ?_); first | (refine congrArg intV ?_) | (refine congrArg boolV ?_) | (refine tupII ?_ ?_) | (refine tupIII ?_ ?_ ?_) | (refine tupU ?_ ?_ ?_ ?_ ?_) | exact rfl))
  · unfold staE
    rw [if_pos hb]
  · rename_i h1
    unfold staE
    rw [if_neg (fun h => h h1), if_pos (by rcases hb with hb | ⟨ho, hb⟩ <;> first | exact .inl (by omega) | exact .inr ⟨ho, by omega⟩)]
  · rename_i h1 h2
    unfold staE
    rw [if_neg (fun h => h h1), if_neg (by intro hh; obtain ⟨h2a, h2b⟩ := h2; rcases hh with hh | ⟨ho, hh⟩ <;> rcases h2b with h2b | h2b <;> first | omega | (subst ho; cases h2b)), if_pos hb]
  · rename_i h1 h2
    unfold staE
    rw [if_neg (fun h => h h1), if_neg (by intro hh; obtain ⟨h2a, h2b⟩ := h2; rcases hh with hh | ⟨ho, hh⟩ <;> rcases h2b with h2b | h2b <;> first | omega | (subst ho; cases h2b)), if_neg (by rintro ⟨ho, hh⟩; rcases hb with hb | hb <;> first | exact hh hb | (subst ho; cases hb))]

theorem staE_zero {r : Rul} {on : Bool} {si po : Int} (h : staE r on si po = 0) : okR r ∧ 1 ≤ si ∧ si ≤ 200000 ∧ (on = true → r.le ≤ po ∧ po ≤ r.mo) ∧ (on = false → po = 0) := by
  unfold staE at h
  split at h
  · rename_i hn; exact absurd h hn
  · rename_i hn
    have hr : rulE r = 0 := by simpa using hn
    have hk : okR r := by
      unfold rulE at hr
      split at hr
      · cases hr
      · split at hr
        · assumption
        · cases hr
    split at h
    · cases h
    · rename_i h2
      split at h
      · cases h
      · rename_i h3
        refine ⟨hk, by omega, by omega, fun ho => ?_, fun ho => ?_⟩
        · subst ho; simp at h2; omega
        · subst ho; simpa using h3

/-- the next state, what it costs, and the error -/
def nOn (r : Rul) (on : Bool) (si po x : Int) : Int :=
  if x ≠ -1 ∧ (x < r.le ∨ r.mo < x) then 4 else if (on = true ∧ x = -1 ∧ si < r.mi) ∨ (on = false ∧ x ≠ -1 ∧ si < r.mf) then 12 else if on = true ∧ x ≠ -1 ∧ (x < po - r.dn ∨ po + r.up < x) then 17 else 0
def nB (r : Rul) (on : Bool) (si po x : Int) : Bool := if nOn r on si po x = 0 then decide (x ≠ -1) else false
def nS (r : Rul) (on : Bool) (si po x : Int) : Int := if nOn r on si po x = 0 then (if decide (x ≠ -1) = on then min (si + 1) 200000 else 1) else 0
def nP (r : Rul) (on : Bool) (si po x : Int) : Int := if nOn r on si po x = 0 then (if x ≠ -1 then x else 0) else 0
def nC (r : Rul) (on : Bool) (si po x : Int) : Int := if nOn r on si po x = 0 then (if x ≠ -1 ∧ on = false then r.st else 0) else 0
abbrev nV (r : Rul) (on : Bool) (si po x : Int) : AV := .tup [uV (nB r on si po x) (nS r on si po x) (nP r on si po x), intV (nC r on si po x), intV (nOn r on si po x)]
theorem tupU {a a' : Bool} {b c d e b' c' d' e' : Int} (h1 : a = a') (h2 : b = b') (h3 : c = c') (h4 : d = d') (h5 : e = e') : AV.tup [uV a b c, intV d, intV e] = AV.tup [uV a' b' c', intV d', intV e'] := by rw [h1, h2, h3, h4, h5]

def ordU : Ord := fun id => if id = 15 then some (.go 1 (.go 0 (.fork (.alt 2 (.go 3 (.go 4 (.go 5 (.done)))) (.alt 3 (.go 2 (.go 4 (.go 5 (.done)))) (.none)))))) else none

set_option maxHeartbeats 4000000 in
theorem unext (r : Rul) (on : Bool) (si po x : Int) (h : staE r on si po = 0) : Fn1 Try.prog 56 [rV r, uV on si po, intV x] (nV r on si po x) := by
  refine fn_of_wpx (O := ordU) tab_ok gamU2_ok mixed Try.func56 (by kernel_rfl) rfl rfl rfl (by simp [Try.ntmps56]) (by kernel_rfl) ?_
  obtain ⟨hk, hs0, hs1, hp1, hp0⟩ := staE_zero h
  unfold okR at hk
  have hpo : 0 ≤ po ∧ po ≤ 100000 := by
    cases on
    · have := hp0 rfl; omega
    · have := hp1 rfl; omega
  have e1 : IntKind.i64.wrap (po - r.dn) = po - r.dn := wr_id (by omega) (by omega)
  have e2 : IntKind.i64.wrap (po + r.up) = po + r.up := wr_id (by omega) (by omega)
  have e3 : IntKind.i64.wrap (si + 1) = si + 1 := wr_id (by omega) (by omega)
  clear h hp1 hp0
  cases on
  · conv => whnf
    repeat' (first
      | (refine NilG.mk fun bn hbn hbx => ?_; conv => whnf)
      | (refine Both.mk ?_ ?_ <;> conv => whnf)
      | ((first | (refine MkG.box 1 rfl rfl rfl (by decide) ?_) | (refine MkG.box 2 rfl rfl rfl (by decide) ?_) | (refine MkG.box 3 rfl rfl rfl (by decide) ?_) | (refine MkG.row ?_)); conv => whnf)
      | exact trivial
      | (refine Br.mk (fun hb => ?_) (fun hb => ?_) <;> (first | (exfalso; revert hb; decide) | ((try simp only [BL] at hb) <;> (try simp only [DL] at hb) <;> conv => whnf)))
      | (refine And.intro ?_ ?_; (focus (first | exact id | exact rfl | exact trivial | (intro hg; first | exact hg | exact rfl | (simp; done) | (simp at hg ⊢; assumption)) | omega | decide | exact is2_c _ _ _ | exact is1_c _ _ | exact isS_c _ _ | exact isB_c _ _ | exact Nat.le_refl _ | assumption | exact mulLe (by decide) (by omega) | exact mulLe2 (by decide) (by omega) (by omega) | (intros; simp only [BL] at *; omega) | (intros; (try simp only [BL] at *); (try simp only [DL] at *); omega) | (intros; simp only [BL] at *; rw [wr_id (by omega) (by omega)]; omega) | (intro h1 h2; exact Bool.and_eq_true_iff.2 ⟨h1, h2⟩) | (intros; simp_all; done))); conv => whnf)
      | (refine Or.inr (And.intro rfl ?_); first | (refine congrArg intV ?_) | (refine congrArg boolV ?_) | (refine tupII ?_ ?_) | (refine tupIII ?_ ?_ ?_) | (refine tupU ?_ ?_ ?_ ?_ ?_) | exact rfl))
    all_goals simp only [outU, e1, e2, e3, BL] at *
    all_goals simp only [nB, nS, nP, nC, nOn]
    all_goals clear e1 e2 e3
    all_goals (repeat' split) <;> first | omega | (simp_all; done) | (simp_all <;> omega)
  · conv => whnf
    repeat' (first
      | (refine NilG.mk fun bn hbn hbx => ?_; conv => whnf)
      | (refine Both.mk ?_ ?_ <;> conv => whnf)
      | ((first | (refine MkG.box 1 rfl rfl rfl (by decide) ?_) | (refine MkG.box 2 rfl rfl rfl (by decide) ?_) | (refine MkG.box 3 rfl rfl rfl (by decide) ?_) | (refine MkG.row ?_)); conv => whnf)
      | exact trivial
      | (refine Br.mk (fun hb => ?_) (fun hb => ?_) <;> (first | (exfalso; revert hb; decide) | ((try simp only [BL] at hb) <;> (try simp only [DL] at hb) <;> conv => whnf)))
      | (refine And.intro ?_ ?_; (focus (first | exact id | exact rfl | exact trivial | (intro hg; first | exact hg | exact rfl | (simp; done) | (simp at hg ⊢; assumption)) | omega | decide | exact is2_c _ _ _ | exact is1_c _ _ | exact isS_c _ _ | exact isB_c _ _ | exact Nat.le_refl _ | assumption | exact mulLe (by decide) (by omega) | exact mulLe2 (by decide) (by omega) (by omega) | (intros; simp only [BL] at *; omega) | (intros; (try simp only [BL] at *); (try simp only [DL] at *); omega) | (intros; simp only [BL] at *; rw [wr_id (by omega) (by omega)]; omega) | (intro h1 h2; exact Bool.and_eq_true_iff.2 ⟨h1, h2⟩) | (intros; simp_all; done))); conv => whnf)
      | (refine Or.inr (And.intro rfl ?_); first | (refine congrArg intV ?_) | (refine congrArg boolV ?_) | (refine tupII ?_ ?_) | (refine tupIII ?_ ?_ ?_) | (refine tupU ?_ ?_ ?_ ?_ ?_) | exact rfl))
    all_goals simp only [outU, e1, e2, e3, BL] at *
    all_goals simp only [nB, nS, nP, nC, nOn]
    all_goals clear e1 e2 e3
    all_goals (repeat' split) <;> first | omega | (simp_all; done) | (simp_all <;> omega)

end Go.Proofs.Ytemfikdogdadnaa
