/-
  The package unit: Run and First.
-/
import Derived.Test.YtdakikgebfphmaaUnit2
import Derived.Test.YtdakikgebfphmaaOff2
namespace Go.Proofs.Ytdakikgebfphmaa
open Go.RowKit

structure US where
  on : Bool
  si : Int
  po : Int
/-- the state ahead of period k -/
def stt (r : Rul) (u : US) (sc : Nat → Int) : Nat → US
  | 0 => u
  | k + 1 => ⟨nB r (stt r u sc k).on (stt r u sc k).si (stt r u sc k).po (sc k), nS r (stt r u sc k).on (stt r u sc k).si (stt r u sc k).po (sc k), nP r (stt r u sc k).on (stt r u sc k).si (stt r u sc k).po (sc k)⟩
def eAt (r : Rul) (u : US) (sc : Nat → Int) (k : Nat) : Int := nOn r (stt r u sc k).on (stt r u sc k).si (stt r u sc k).po (sc k)
def cAt (r : Rul) (u : US) (sc : Nat → Int) (k : Nat) : Int := nC r (stt r u sc k).on (stt r u sc k).si (stt r u sc k).po (sc k)
def cU (v : Nat → US) : Nat → Nat → L := fun k j => [bL (v k).on, iL (v k).si, iL (v k).po].getD j .un

theorem next_ok {r : Rul} {on : Bool} {si po x : Int} (h : staE r on si po = 0) (hn : nOn r on si po x = 0) : staE r (nB r on si po x) (nS r on si po x) (nP r on si po x) = 0 := by
  obtain ⟨hk, hs0, hs1, hp1, hp0⟩ := staE_zero h
  have hr : rulE r = 0 := by
    unfold staE at h
    split at h
    · rename_i hne; exact absurd h hne
    · rename_i hne; simpa using hne
  unfold staE nB nS nP
  rw [if_neg (by simp [hr]), if_pos hn, if_pos hn, if_pos hn]
  by_cases hx : x = -1
  · subst hx
    rw [if_neg (by
      rintro (h1 | ⟨h1, _⟩)
      · split at h1 <;> omega
      · simp at h1), if_neg (by simp)]
  · have hin : ¬(x < r.le ∨ r.mo < x) := fun hh => by
      unfold nOn at hn
      rw [if_pos ⟨hx, hh⟩] at hn
      cases hn
    rw [if_neg (by
      rintro (h1 | ⟨_, h1⟩)
      · split at h1 <;> omega
      · rw [if_pos hx] at h1; exact hin h1), if_neg (by simp [hx])]

abbrev vV (v : US) : AV := uV v.on v.si v.po
def okV (r : Rul) (v : US) : Prop := staE r v.on v.si v.po = 0
theorem stt_ok {r : Rul} {u : US} {sc : Nat → Int} (h : okV r u) : ∀ k, fst (eAt r u sc) k = 0 → okV r (stt r u sc k)
  | 0, _ => h
  | k + 1, he => by
    have h1 : fst (eAt r u sc) k = 0 ∧ eAt r u sc k = 0 := by
      simp only [fst] at he
      split at he
      · rename_i hn; exact absurd he hn
      · rename_i hn; exact ⟨by simpa using hn, he⟩
    exact next_ok (stt_ok h k h1.1) h1.2

/-- the error of a run; the first period that is not possible -/
def runE (r : Rul) (u : US) (n : Nat) (sc : Nat → Int) : Int := if staE r u.on u.si u.po ≠ 0 then staE r u.on u.si u.po else if 24 < n then 2 else fst (eAt r u sc) n
def runI (r : Rul) (u : US) (n : Nat) (sc : Nat → Int) : Int := if staE r u.on u.si u.po ≠ 0 then 0 else if 24 < n then 0 else match ffind (fun k => decide (eAt r u sc k ≠ 0)) n with
  | some i => i
  | none => 0

theorem cAt_le {r : Rul} {u : US} {sc : Nat → Int} {k : Nat} (h : okV r (stt r u sc k)) : 0 ≤ cAt r u sc k ∧ cAt r u sc k ≤ 1000000 := by
  have hk := (staE_zero h).1
  unfold okR at hk
  unfold cAt nC
  split
  · split <;> omega
  · omega

/-- what a run hands back -/
def runK (r : Rul) (u : US) (n : Nat) (sc : Nat → Int) (obs : List OB) (x : AV) : Prop :=
  obs = [] ∧ (runE r u n sc ≠ 0 ∧ x = .tup [.c (.v (.slice none 0 0)), intV 0, intV (runE r u n sc)] ∨ runE r u n sc = 0 ∧ x = .tup [.c (.sl 3 n (cU fun k => stt r u sc (k + 1))), intV (S (cAt r u sc) n), intV 0])

def runK' (r : Rul) (u : US) (n : Nat) (sc : Nat → Int) (obs : List OB) (x : AV) : Prop :=
  obs = [] ∧ (runE r u n sc ≠ 0 ∧ x = .tup [.c (.sl 3 0 (cU fun k => stt r u sc (k + 1))), intV 0, intV (runE r u n sc)] ∨ runE r u n sc = 0 ∧ x = .tup [.c (.sl 3 n (cU fun k => stt r u sc (k + 1))), intV (S (cAt r u sc) n), intV 0])
theorem uRun0 (r : Rul) (u : US) (n : Nat) (sc : Nat → Int) (hs : r.nm.size ≤ maxLen) : Fn Try.prog 43 [rV r, vV u, .c (.sl 1 n (c1 sc))] (runK r u n sc) := by
  refine fn_of_wpx (O := lex) tab_ok gamU3_ok mixed Try.func43 (by kernel_rfl) rfl rfl rfl (by simp [Try.ntmps43]) (by kernel_rfl) ?_
  conv => whnf
  repeat' (first
    | (refine NilG.mk fun bn hbn => ?_; conv => whnf)
    | (refine Both.mk ?_ ?_ <;> conv => whnf)
    | exact trivial
    | (refine Br.mk (fun hb => ?_) (fun hb => ?_) <;> (first | (exfalso; revert hb; decide) | ((try simp only [BL] at hb) <;> (try simp only [DL] at hb) <;> conv => whnf)))
    | (refine And.intro ?_ ?_; (focus (first | exact id | exact rfl | exact trivial | (intro hg; first | exact hg | exact rfl | (simp; done) | (simp at hg ⊢; assumption)) | omega | decide | exact is2_c _ _ _ | exact is1_c _ _ | exact isS_c _ _ | exact isB_c _ _ | exact Nat.le_refl _ | assumption | exact mulLe (by decide) (by omega) | exact mulLe2 (by decide) (by omega) (by omega) | (intros; simp only [BL] at *; omega) | (intros; (try simp only [BL] at *); (try simp only [DL] at *); omega) | (intros; simp only [BL] at *; rw [wr_id (by omega) (by omega)]; omega) | (intro h1 h2; exact Bool.and_eq_true_iff.2 ⟨h1, h2⟩) | exact hs | (intros; simp_all; done))); conv => whnf)
    | (refine Or.inr (And.intro rfl ?_); first | (refine congrArg intV ?_) | (refine congrArg boolV ?_) | (refine tupII ?_ ?_) | (refine tupIII ?_ ?_ ?_) | (refine tupU ?_ ?_ ?_ ?_ ?_) | exact rfl))
  · have h0 : ¬ staE r u.on u.si u.po = 0 := hb
    have hE : runE r u n sc = staE r u.on u.si u.po := if_pos h0
    exact .inr ⟨rfl, .inl ⟨by rw [hE]; exact h0, by rw [hE]; rfl⟩⟩
  · rename_i h1
    have h0 : staE r u.on u.si u.po = 0 := h1
    have hE : runE r u n sc = 2 := by unfold runE; rw [if_neg (fun h => h h0), if_pos (by omega)]
    exact .inr ⟨rfl, .inl ⟨by rw [hE]; decide, by rw [hE]; rfl⟩⟩
  rename_i h1
  have h0 : okV r u := h1
  have hn : n ≤ 24 := by omega
  have hE : runE r u n sc = fst (eAt r u sc) n := by unfold runE; rw [if_neg (fun h => h h0), if_neg (by omega)]
  clear hb h1
  refine LoopG.nil 10 67 3 rfl ?_
  refine sem_loop tab_ok gamU3_ok mixed (by kernel_rfl) (O := lex) (fun k : Nat => ⟨[(28, intV k), (27, intV n), (26, .c (.sl 1 n (c1 sc))), (11, intV (S (cAt r u sc) k)), (10, .own 2), (3, .lp 0 0), (4, .lp 1 0)], [.box [strV r.nm, intV r.le, intV r.mo, intV r.up, intV r.dn, intV r.mi, intV r.mf, intV r.st], .box [boolV (stt r u sc k).on, intV (stt r u sc k).si, intV (stt r u sc k).po], .row 67 3 k false (cU fun j => stt r u sc (j + 1))]⟩) (fun k => k ≤ n ∧ fst (eAt r u sc) k = 0) (fun k => n - k) ⟨0, [?_, ?_, ?_], ⟨Nat.zero_le _, rfl⟩, ?_⟩ fun k hk => ?_
  rotate_left 3
  · refine Sub.of ?_ ?_ ?_
    repeat' (first | (refine And.intro ?_ ?_) | exact trivial | exact fun _ _ _ => hsc _ _ | (exact congrArg intV (by first | with_reducible rfl | with_reducible assumption)) | exact (rfl : AV.idsLt _ _ = true) | exact (rfl : _ = AV.ren _ (.own _)) | exact (rfl : _ = AV.ren _ (.fn _ _)) | exact (rfl : _ = AV.ren _ (.gh _)) | (exact congrArg intV (by assumption)) | (refine congrArg intV ((wr_id (by omega) (by omega)).trans (by omega))) | exact rfl | (simp only [Int.toNat_natCast, Int.toNat_zero, Nat.sub_zero, Nat.zero_add]; first | exact rfl | done) | exact all0 | exact fun h => Bool.noConfusion h | exact fun _ _ _ _ => rfl | omega)
  have hok := stt_ok h0 k hk.2
  have hS := S_le (p := cAt r u sc) (a := 0) (b := 1000000) (k := k) fun j hj => cAt_le (stt_ok h0 j (fst_of fun q hq => fst_zero hk.2 q (by omega)))
  have hc := cAt_le hok
  conv => whnf
  repeat' (first
    | (refine NilG.mk fun bn hbn => ?_; conv => whnf)
    | (refine Both.mk ?_ ?_ <;> conv => whnf)
    | exact trivial
    | (refine Br.mk (fun hb => ?_) (fun hb => ?_) <;> (first | (exfalso; revert hb; decide) | ((try simp only [BL] at hb) <;> (try simp only [DL] at hb) <;> conv => whnf)))
    | (refine And.intro ?_ ?_; (focus (first | exact id | exact rfl | exact trivial | (intro hg; first | exact hg | exact rfl | (simp; done) | (simp at hg ⊢; assumption)) | omega | decide | exact is2_c _ _ _ | exact is1_c _ _ | exact isS_c _ _ | exact isB_c _ _ | exact Nat.le_refl _ | assumption | exact mulLe (by decide) (by omega) | exact mulLe2 (by decide) (by omega) (by omega) | (intros; simp only [BL] at *; omega) | (intros; (try simp only [BL] at *); (try simp only [DL] at *); omega) | (intros; simp only [BL] at *; rw [wr_id (by omega) (by omega)]; omega) | (intro h1 h2; exact Bool.and_eq_true_iff.2 ⟨h1, h2⟩) | exact hok | (intros; simp_all; done))); conv => whnf)
    | (refine Or.inr (And.intro rfl ?_); first | (refine congrArg intV ?_) | (refine congrArg boolV ?_) | (refine tupII ?_ ?_) | (refine tupIII ?_ ?_ ?_) | (refine tupU ?_ ?_ ?_ ?_ ?_) | exact rfl))
  · have he : eAt r u sc k ≠ 0 := hb
    have hE' : runE r u n sc = eAt r u sc k := by rw [hE, fst_at hk.2 he (by omega)]
    exact .inr ⟨rfl, .inl ⟨by rw [hE']; exact he, by rw [hE']; rfl⟩⟩
  · have e1 : IntKind.i64.wrap (S (cAt r u sc) k + cAt r u sc k) = S (cAt r u sc) (k + 1) := wr_id (by omega) (by omega)
    refine ⟨k + 1, [?_, ?_, ?_], ⟨by omega, fst_next hk.2 hb⟩, by omega, ?_⟩
    rotate_left 3
    refine Sub.of ?_ ?_ ?_
    repeat' (first | (refine And.intro ?_ ?_) | exact trivial | exact fun _ _ _ => hsc _ _ | (exact congrArg intV (by first | with_reducible rfl | with_reducible assumption)) | exact (rfl : AV.idsLt _ _ = true) | exact (rfl : _ = AV.ren _ (.own _)) | exact (rfl : _ = AV.ren _ (.fn _ _)) | exact (rfl : _ = AV.ren _ (.gh _)) | (exact congrArg intV (by assumption)) | (refine congrArg intV ((wr_id (by omega) (by omega)).trans (by omega))) | exact rfl | (simp only [Int.toNat_natCast, Int.toNat_zero, Nat.sub_zero, Nat.zero_add]; first | exact rfl | done) | exact all0 | exact fun h => Bool.noConfusion h | exact fun _ _ _ _ => rfl | omega)
    intro aq haq bq hbq
    by_cases hltq : aq < k
    · exact if_pos hltq
    · obtain rfl : aq = k := by omega
      refine (if_neg hltq).trans ?_
      rw [Nat.sub_self]
      revert bq hbq
      refine all3 rfl rfl rfl
  · obtain rfl : k = n := by omega
    have hE' : runE r u k sc = 0 := by rw [hE, hk.2]
    exact .inr ⟨rfl, .inr ⟨hE', rfl⟩⟩

theorem uRun (r : Rul) (u : US) (n : Nat) (sc : Nat → Int) (hs : r.nm.size ≤ maxLen) : Fn Try.prog 43 [rV r, vV u, .c (.sl 1 n (c1 sc))] (runK' r u n sc) :=
  (uRun0 r u n sc hs).res fun obs x ⟨h1, h2⟩ => by
    rcases h2 with ⟨h2, rfl⟩ | ⟨h2, rfl⟩
    · exact ⟨_, ⟨h1, .inl ⟨h2, rfl⟩⟩, Le1.tup (Le.cons Le1.nil (Le.cons (Le1.refl _) (Le.cons (Le1.refl _) Le.nil)))⟩
    · exact ⟨_, ⟨h1, .inr ⟨h2, rfl⟩⟩, Le1.refl _⟩
end Go.Proofs.Ytdakikgebfphmaa
