/-
  The package unit: Run and First.
-/
import Derived.Test.YtemfikdogdadnaaUnit
import Derived.Test.YtemfikdogdadnaaOff2
namespace Go.Proofs.Ytemfikdogdadnaa
open Go.RowKit

def ordM : Ord := fun id => if id = 8 then some (.go 0 (.go 1 (.go 2 (.fork (.alt 3 (.go 4 (.go 5 (.go 6 (.done)))) (.alt 4 (.go 3 (.go 5 (.go 6 (.done)))) (.none))))))) else none

set_option maxHeartbeats 4000000 in
theorem umoved (r : Rul) (on : Bool) (si po x : Int) (h : staE r on si po = 0) : Fn1 Try.prog 63 [rV r, uV on si po, intV x] (nV r on si po x) := by
  refine fn_of_wpx (O := ordM) tab_ok gamU2_ok mixed Try.func63 (by kernel_rfl) rfl rfl rfl (by simp [Try.ntmps63]) (by kernel_rfl) ?_
  obtain ⟨hk, hs0, hs1, hp1, hp0⟩ := staE_zero h
  unfold okR at hk
  have hpo : 0 ≤ po ∧ po ≤ 100000 := by
    cases on
    · have := hp0 rfl; omega
    · have := hp1 rfl; omega
  have e3 : IntKind.i64.wrap (si + 1) = si + 1 := wr_id (by omega) (by omega)
  have e4 : IntKind.i64.wrap (0 - r.dn) = 0 - r.dn := wr_id (by omega) (by omega)
  have e5 : r.le ≤ x → x ≤ r.mo → IntKind.i64.wrap (x - po) = x - po := fun _ _ => wr_id (by omega) (by omega)
  clear h hp1
  cases on
  · have hp := hp0 rfl
    clear hp0
    conv => whnf
    repeat' (first
      | (refine NilG.mk fun bn hbn hbx => ?_; conv => whnf)
      | (refine Both.mk ?_ ?_ <;> conv => whnf)
      | ((first | (refine MkG.box 1 rfl rfl rfl (by decide) ?_) | (refine MkG.box 2 rfl rfl rfl (by decide) ?_) | (refine MkG.box 3 rfl rfl rfl (by decide) ?_) | (refine MkG.row ?_)); conv => whnf)
      | exact trivial
      | (refine Br.mk (fun hb => ?_) (fun hb => ?_) <;> (first | (exfalso; revert hb; decide) | ((try simp only [BL] at hb) <;> (try simp only [DL] at hb) <;> conv => whnf)))
      | (refine And.intro ?_ ?_; (focus (first | exact id | exact rfl | exact trivial | (intro hg; first | exact hg | exact rfl | (simp; done) | (simp at hg ⊢; assumption)) | omega | decide | exact is2_c _ _ _ | exact is1_c _ _ | exact isS_c _ _ | exact isB_c _ _ | exact Nat.le_refl _ | assumption | exact mulLe (by decide) (by omega) | exact mulLe2 (by decide) (by omega) (by omega) | (intros; simp only [BL] at *; omega) | (intros; (try simp only [BL] at *); (try simp only [DL] at *); omega) | (intros; simp only [BL] at *; rw [wr_id (by omega) (by omega)]; omega) | (intro h1 h2; exact Bool.and_eq_true_iff.2 ⟨h1, h2⟩) | (intros; simp_all; done))); conv => whnf)
      | (refine Or.inr (And.intro rfl ?_); first | (refine congrArg intV ?_) | (refine congrArg boolV ?_) | (refine tupII ?_ ?_) | (refine tupIII ?_ ?_ ?_) | (refine tupU ?_ ?_ ?_ ?_ ?_) | exact rfl))
    all_goals simp only [e3, e4, BL] at *
    all_goals (try (have e6 := e5 (by omega) (by omega); simp only [e6] at *))
    all_goals clear e3 e4 e5
    all_goals simp only [nB, nS, nP, nC, nOn]
    all_goals (repeat' split) <;> first | omega | (simp_all; done) | (simp_all <;> omega)
  · clear hp0
    conv => whnf
    repeat' (first
      | (refine NilG.mk fun bn hbn hbx => ?_; conv => whnf)
      | (refine Both.mk ?_ ?_ <;> conv => whnf)
      | ((first | (refine MkG.box 1 rfl rfl rfl (by decide) ?_) | (refine MkG.box 2 rfl rfl rfl (by decide) ?_) | (refine MkG.box 3 rfl rfl rfl (by decide) ?_) | (refine MkG.row ?_)); conv => whnf)
      | exact trivial
      | (refine Br.mk (fun hb => ?_) (fun hb => ?_) <;> (first | (exfalso; revert hb; decide) | ((try simp only [BL] at hb) <;> (try simp only [DL] at hb) <;> conv => whnf)))
      | (refine And.intro ?_ ?_; (focus (first | exact id | exact rfl | exact trivial | (intro hg; first | exact hg | exact rfl | (simp; done) | (simp at hg ⊢; assumption)) | omega | decide | exact is2_c _ _ _ | exact is1_c _ _ | exact isS_c _ _ | exact isB_c _ _ | exact Nat.le_refl _ | assumption | exact mulLe (by decide) (by omega) | exact mulLe2 (by decide) (by omega) (by omega) | (intros; simp only [BL] at *; omega) | (intros; (try simp only [BL] at *); (try simp only [DL] at *); omega) | (intros; simp only [BL] at *; rw [wr_id (by omega) (by omega)]; omega) | (intro h1 h2; exact Bool.and_eq_true_iff.2 ⟨h1, h2⟩) | (intros; simp_all; done))); conv => whnf)
      | (refine Or.inr (And.intro rfl ?_); first | (refine congrArg intV ?_) | (refine congrArg boolV ?_) | (refine tupII ?_ ?_) | (refine tupIII ?_ ?_ ?_) | (refine tupU ?_ ?_ ?_ ?_ ?_) | exact rfl))
    all_goals simp only [e3, e4, BL] at *
    all_goals (try (have e6 := e5 (by omega) (by omega); simp only [e6] at *))
    all_goals clear e3 e4 e5
    all_goals simp only [nB, nS, nP, nC, nOn]
    all_goals (repeat' split) <;> first | omega | (simp_all; done) | (simp_all <;> omega)

def gamU3 : Gam := fun f => match f with
  | 55 => some (sRU (fun r _ _ _ => r.nm.size ≤ maxLen) fun r on si po => intV (staE r on si po))
  | 56 => some (sRUi (fun r on si po _ => staE r on si po = 0) nV)
  | _ => none
theorem gamU3_ok : GOk Try.prog gamU3 := fun f g h => by
  unfold gamU3 at h
  split at h
  · injection h with h; subst h; exact sRU_ok uState
  · injection h with h; subst h; exact sRUi_ok unext
  · cases h

/-- Next: state, cost, error -/
abbrev xV (r : Rul) (on : Bool) (si po x : Int) : AV := .tup [uV (if staE r on si po = 0 then nB r on si po x else false) (if staE r on si po = 0 then nS r on si po x else 0) (if staE r on si po = 0 then nP r on si po x else 0),
  intV (if staE r on si po = 0 then nC r on si po x else 0), intV (if staE r on si po = 0 then nOn r on si po x else staE r on si po)]

/-- Range: least, most, error -/
def gE (r : Rul) (on : Bool) (si po : Int) : Int := if staE r on si po ≠ 0 then staE r on si po else if on = false ∧ si < r.mf then 12 else 0
def gL (r : Rul) (on : Bool) (si po : Int) : Int := if gE r on si po ≠ 0 then 0 else if on = true then max r.le (po - r.dn) else r.le
def gM (r : Rul) (on : Bool) (si po : Int) : Int := if gE r on si po ≠ 0 then 0 else if on = true then min r.mo (po + r.up) else r.mo
end Go.Proofs.Ytemfikdogdadnaa

namespace Go.Proofs.Ytemfikdogdadnaa
open Go.RowKit

structure US where
  on : Bool
  si : Int
  po : Int
/-- the state ahead of period k -/
def stt (r : Rul) (u : US) (sc : Nat → Int) : Nat → US
  | 0 => u
  | k + 1 => ⟨nB r (stt r u sc k).on (stt r u sc k).si (stt r u sc k).po (sc k), nS r (stt r u sc k).on (stt r u sc k).si (stt r u sc k).po (sc k), nP r (stt r u sc k).on (stt r u sc k).si (stt r u sc k).po (sc k)⟩
def eAt (r : Rul) (u : US) (sc : Nat → Int) (k : Nat) : Int := nOn r (stt r u sc k).on (stt r u sc k).si (stt r u sc k).po (sc k)
def cAt (r : Rul) (u : US) (sc : Nat → Int) (k : Nat) : Int := nC r (stt r u sc k).on (stt r u sc k).si (stt r u sc k).po (sc k)
def cUr (v : Nat → US) : Nat → Nat → L := fun k j => [bL (v k).on, iL (v k).si, iL (v k).po].getD j .un

theorem next_ok {r : Rul} {on : Bool} {si po x : Int} (h : staE r on si po = 0) (hn : nOn r on si po x = 0) : staE r (nB r on si po x) (nS r on si po x) (nP r on si po x) = 0 := by
  obtain ⟨hk, hs0, hs1, hp1, hp0⟩ := staE_zero h
  have hr : rulE r = 0 := by
    unfold staE at h
    split at h
    · rename_i hne; exact absurd h hne
    · rename_i hne; simpa using hne
  unfold staE nB nS nP
  rw [if_neg (by simp [hr]), if_pos hn, if_pos hn, if_pos hn]
  by_cases hx : x = -1
  · subst hx
    rw [if_neg (by
      rintro (h1 | ⟨h1, _⟩)
      · split at h1 <;> omega
      · simp at h1), if_neg (by simp)]
  · have hin : ¬(x < r.le ∨ r.mo < x) := fun hh => by
      unfold nOn at hn
      rw [if_pos ⟨hx, hh⟩] at hn
      cases hn
    rw [if_neg (by
      rintro (h1 | ⟨_, h1⟩)
      · split at h1 <;> omega
      · rw [if_pos hx] at h1; exact hin h1), if_neg (by simp [hx])]

abbrev vV (v : US) : AV := uV v.on v.si v.po
def okV (r : Rul) (v : US) : Prop := staE r v.on v.si v.po = 0
theorem stt_ok {r : Rul} {u : US} {sc : Nat → Int} (h : okV r u) : ∀ k, fst (eAt r u sc) k = 0 → okV r (stt r u sc k)
  | 0, _ => h
  | k + 1, he => by
    have h1 : fst (eAt r u sc) k = 0 ∧ eAt r u sc k = 0 := by
      simp only [fst] at he
      split at he
      · rename_i hn; exact absurd he hn
      · rename_i hn; exact ⟨by simpa using hn, he⟩
    exact next_ok (stt_ok h k h1.1) h1.2

/-- the error of a run; the first period that is not possible -/
def runE (r : Rul) (u : US) (n : Nat) (sc : Nat → Int) : Int := if staE r u.on u.si u.po ≠ 0 then staE r u.on u.si u.po else if 24 < n then 2 else fst (eAt r u sc) n
def runI (r : Rul) (u : US) (n : Nat) (sc : Nat → Int) : Int := if staE r u.on u.si u.po ≠ 0 then 0 else if 24 < n then 0 else match ffind (fun k => decide (eAt r u sc k ≠ 0)) n with
  | some i => i
  | none => 0

theorem cAt_le {r : Rul} {u : US} {sc : Nat → Int} {k : Nat} (h : okV r (stt r u sc k)) : 0 ≤ cAt r u sc k ∧ cAt r u sc k ≤ 1000000 := by
  have hk := (staE_zero h).1
  unfold okR at hk
  unfold cAt nC
  split
  · split <;> omega
  · omega

/-- what a run hands back -/
def runK (r : Rul) (u : US) (n : Nat) (sc : Nat → Int) (obs : List OB) (x : AV) : Prop :=
  obs = [] ∧ (runE r u n sc ≠ 0 ∧ x = .tup [.c (.v (.slice none 0 0)), intV 0, intV (runE r u n sc)] ∨ runE r u n sc = 0 ∧ x = .tup [.c (.sl 3 n (cUr fun k => stt r u sc (k + 1))), intV (S (cAt r u sc) n), intV 0])

def runK' (r : Rul) (u : US) (n : Nat) (sc : Nat → Int) (obs : List OB) (x : AV) : Prop :=
  obs = [] ∧ (runE r u n sc ≠ 0 ∧ x = .tup [.c (.sl 3 0 (cUr fun k => stt r u sc (k + 1))), intV 0, intV (runE r u n sc)] ∨ runE r u n sc = 0 ∧ x = .tup [.c (.sl 3 n (cUr fun k => stt r u sc (k + 1))), intV (S (cAt r u sc) n), intV 0])
theorem uRun0 (r : Rul) (u : US) (n : Nat) (sc : Nat → Int) (hs : r.nm.size ≤ maxLen) : Fn Try.prog 23 [rV r, vV u, .c (.sl 1 n (c1 sc))] (runK r u n sc) := by
  refine fn_of_wpx (O := lex) tab_ok gamU3_ok mixed Try.func23 (by kernel_rfl) rfl rfl rfl (by simp [Try.ntmps23]) (by kernel_rfl) ?_
  conv => whnf
  repeat' (first
    | (refine NilG.mk fun bn hbn hbx => ?_; conv => whnf)
    | (refine Both.mk ?_ ?_ <;> conv => whnf)
    | ((first | (refine MkG.box 1 rfl rfl rfl (by decide) ?_) | (refine MkG.box 2 rfl rfl rfl (by decide) ?_) | (refine MkG.box 3 rfl rfl rfl (by decide) ?_) | (refine MkG.row ?_)); conv => whnf)
    | exact trivial
    | (refine Br.mk (fun hb => ?_) (fun hb => ?_) <;> (first | (exfalso; revert hb; decide) | ((try simp only [BL] at hb) <;> (try simp only [DL] at hb) <;> conv => whnf)))
    | (refine And.intro ?_ ?_; (focus (first | exact id | exact rfl | exact trivial | (intro hg; first | exact hg | exact rfl | (simp; done) | (simp at hg ⊢; assumption)) | omega | decide | exact is2_c _ _ _ | exact is1_c _ _ | exact isS_c _ _ | exact isB_c _ _ | exact Nat.le_refl _ | assumption | exact mulLe (by decide) (by omega) | exact mulLe2 (by decide) (by omega) (by omega) | (intros; simp only [BL] at *; omega) | (intros; (try simp only [BL] at *); (try simp only [DL] at *); omega) | (intros; simp only [BL] at *; rw [wr_id (by omega) (by omega)]; omega) | (intro h1 h2; exact Bool.and_eq_true_iff.2 ⟨h1, h2⟩) | exact hs | (intros; simp_all; done))); conv => whnf)
    | (refine Or.inr (And.intro rfl ?_); first | (refine congrArg intV ?_) | (refine congrArg boolV ?_) | (refine tupII ?_ ?_) | (refine tupIII ?_ ?_ ?_) | (refine tupU ?_ ?_ ?_ ?_ ?_) | exact rfl))
  · have h0 : ¬ staE r u.on u.si u.po = 0 := hb
    have hE : runE r u n sc = staE r u.on u.si u.po := if_pos h0
    exact .inr ⟨rfl, .inl ⟨by rw [hE]; exact h0, by rw [hE]; rfl⟩⟩
  · rename_i h1
    have h0 : staE r u.on u.si u.po = 0 := h1
    have hE : runE r u n sc = 2 := by unfold runE; rw [if_neg (fun h => h h0), if_pos (by omega)]
    exact .inr ⟨rfl, .inl ⟨by rw [hE]; decide, by rw [hE]; rfl⟩⟩
  rename_i h1
  have h0 : okV r u := h1
  have hn : n ≤ 24 := by omega
  have hE : runE r u n sc = fst (eAt r u sc) n := by unfold runE; rw [if_neg (fun h => h h0), if_neg (by omega)]
  clear hb h1
  refine LoopG.nil 10 66 3 rfl ?_
  refine sem_loop tab_ok gamU3_ok mixed (by kernel_rfl) (O := lex) (fun k : Nat => ⟨[(28, intV k), (27, intV n), (26, .c (.sl 1 n (c1 sc))), (11, intV (S (cAt r u sc) k)), (10, .own 2), (3, .lp 0 0), (4, .lp 1 0)], [.box [strV r.nm, intV r.le, intV r.mo, intV r.up, intV r.dn, intV r.mi, intV r.mf, intV r.st], .box [boolV (stt r u sc k).on, intV (stt r u sc k).si, intV (stt r u sc k).po], .row 66 3 k false (cUr fun j => stt r u sc (j + 1))]⟩) (fun k => k ≤ n ∧ fst (eAt r u sc) k = 0) (fun k => n - k) ⟨0, [?_, ?_, ?_], ⟨Nat.zero_le _, rfl⟩, ?_⟩ fun k hk => ?_
  rotate_left 3
  · refine Sub.of ?_ ?_ ?_
    repeat' (first | (refine And.intro ?_ ?_) | exact trivial | exact fun _ _ _ => hsc _ _ | (exact congrArg intV (by first | with_reducible rfl | with_reducible assumption)) | exact (rfl : AV.idsLt _ _ = true) | exact (rfl : _ = AV.ren _ (.own _)) | exact (rfl : _ = AV.ren _ (.fn _ _)) | exact (rfl : _ = AV.ren _ (.gh _)) | (exact congrArg intV (by assumption)) | (refine congrArg intV ((wr_id (by omega) (by omega)).trans (by omega))) | exact rfl | (simp only [Int.toNat_natCast, Int.toNat_zero, Nat.sub_zero, Nat.zero_add]; first | exact rfl | done) | exact all0 | exact fun h => Bool.noConfusion h | exact fun _ _ _ _ => rfl | omega)
  have hok := stt_ok h0 k hk.2
  have hS := S_le (p := cAt r u sc) (a := 0) (b := 1000000) (k := k) fun j hj => cAt_le (stt_ok h0 j (fst_of fun q hq => fst_zero hk.2 q (by omega)))
  have hc := cAt_le hok
  conv => whnf
  repeat' (first
    | (refine NilG.mk fun bn hbn hbx => ?_; conv => whnf)
    | (refine Both.mk ?_ ?_ <;> conv => whnf)
    | ((first | (refine MkG.box 1 rfl rfl rfl (by decide) ?_) | (refine MkG.box 2 rfl rfl rfl (by decide) ?_) | (refine MkG.box 3 rfl rfl rfl (by decide) ?_) | (refine MkG.row ?_)); conv => whnf)
    | exact trivial
    | (refine Br.mk (fun hb => ?_) (fun hb => ?_) <;> (first | (exfalso; revert hb; decide) | ((try simp only [BL] at hb) <;> (try simp only [DL] at hb) <;> conv => whnf)))
    | (refine And.intro ?_ ?_; (focus (first | exact id | exact rfl | exact trivial | (intro hg; first | exact hg | exact rfl | (simp; done) | (simp at hg ⊢; assumption)) | omega | decide | exact is2_c _ _ _ | exact is1_c _ _ | exact isS_c _ _ | exact isB_c _ _ | exact Nat.le_refl _ | assumption | exact mulLe (by decide) (by omega) | exact mulLe2 (by decide) (by omega) (by omega) | (intros; simp only [BL] at *; omega) | (intros; (try simp only [BL] at *); (try simp only [DL] at *); omega) | (intros; simp only [BL] at *; rw [wr_id (by omega) (by omega)]; omega) | (intro h1 h2; exact Bool.and_eq_true_iff.2 ⟨h1, h2⟩) | exact hok | (intros; simp_all; done))); conv => whnf)
    | (refine Or.inr (And.intro rfl ?_); first | (refine congrArg intV ?_) | (refine congrArg boolV ?_) | (refine tupII ?_ ?_) | (refine tupIII ?_ ?_ ?_) | (refine tupU ?_ ?_ ?_ ?_ ?_) | exact rfl))
  · have he : eAt r u sc k ≠ 0 := hb
    have hE' : runE r u n sc = eAt r u sc k := by rw [hE, fst_at hk.2 he (by omega)]
    exact .inr ⟨rfl, .inl ⟨by rw [hE']; exact he, by rw [hE']; rfl⟩⟩
  · have e1 : IntKind.i64.wrap (S (cAt r u sc) k + cAt r u sc k) = S (cAt r u sc) (k + 1) := wr_id (by omega) (by omega)
    refine ⟨k + 1, [?_, ?_, ?_], ⟨by omega, fst_next hk.2 hb⟩, by omega, ?_⟩
    rotate_left 3
    refine Sub.of ?_ ?_ ?_
    repeat' (first | (refine And.intro ?_ ?_) | exact trivial | exact fun _ _ _ => hsc _ _ | (exact congrArg intV (by first | with_reducible rfl | with_reducible assumption)) | exact (rfl : AV.idsLt _ _ = true) | exact (rfl : _ = AV.ren _ (.own _)) | exact (rfl : _ = AV.ren _ (.fn _ _)) | exact (rfl : _ = AV.ren _ (.gh _)) | (exact congrArg intV (by assumption)) | (refine congrArg intV ((wr_id (by omega) (by omega)).trans (by omega))) | exact rfl | (simp only [Int.toNat_natCast, Int.toNat_zero, Nat.sub_zero, Nat.zero_add]; first | exact rfl | done) | exact all0 | exact fun h => Bool.noConfusion h | exact fun _ _ _ _ => rfl | omega)
    intro aq haq bq hbq
    by_cases hltq : aq < k
    · exact if_pos hltq
    · obtain rfl : aq = k := by omega
      refine (if_neg hltq).trans ?_
      rw [Nat.sub_self]
      revert bq hbq
      refine all3 rfl rfl rfl
  · obtain rfl : k = n := by omega
    have hE' : runE r u k sc = 0 := by rw [hE, hk.2]
    exact .inr ⟨rfl, .inr ⟨hE', rfl⟩⟩

theorem uRun (r : Rul) (u : US) (n : Nat) (sc : Nat → Int) (hs : r.nm.size ≤ maxLen) : Fn Try.prog 23 [rV r, vV u, .c (.sl 1 n (c1 sc))] (runK' r u n sc) :=
  (uRun0 r u n sc hs).res fun obs x ⟨h1, h2⟩ => by
    rcases h2 with ⟨h2, rfl⟩ | ⟨h2, rfl⟩
    · exact ⟨_, ⟨h1, .inl ⟨h2, rfl⟩⟩, Le1.tup (Le.cons Le1.nil (Le.cons (Le1.refl _) (Le.cons (Le1.refl _) Le.nil)))⟩
    · exact ⟨_, ⟨h1, .inr ⟨h2, rfl⟩⟩, Le1.refl _⟩
end Go.Proofs.Ytemfikdogdadnaa
