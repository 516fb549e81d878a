/-
  convexpl.cut with an own row as its result; an own row looked at as a view of itself.
-/
import Derived.Test.YtkkkldhilofgmaaCvxK
namespace Go.Proofs.Ytkkkldhilofgmaa
open Go.RowKit

/-- an own row in a slot is looked at as a view of the whole row -/
def ovUp (S : AS) (t i sz n : Nat) : AS := ⟨(t, .ov i sz 0 n) :: S.fr, S.obs⟩
theorem Rel.ovUp {w0 : Env} {w : World} {I0 I : Nat → Prop} {S : AS} {σ : Asg} {tm : Array Value} (h : Rel w0 I0 S σ I tm w) {t i e sz n : Nat} {sc : Bool} {f : Nat → Nat → L} (ht : fget S.fr t = .own i) (ho : S.obs[i]? = some (.row e sz n sc f)) : Rel w0 I0 (ovUp S t i sz n) σ I tm w := by
  refine ⟨h.same0, h.st, fun t' => ?_, h.i1, h.i2, h.sz⟩
  have hf := h.fr t
  simp only [Go.Proofs.Ytkkkldhilofgmaa.ovUp, fget]
  by_cases hh : t = t'
  · subst hh
    rw [if_pos rfl]
    rw [ht] at hf
    simp only [Den] at hf
    have hr : RowRel σ I w i e sz n f := (h.st.obj i _ ho).1
    obtain ⟨A, cap, q1, q2, q3⟩ := hr.len
    rw [hf.2.1]
    refine ⟨hf.1, A, cap, q1, q2, q3, fun hn => ?_⟩
    obtain ⟨g, cap', cur, xs, e1, e2, -⟩ := hr.at hn
    refine ⟨g, n, cap', e1, ?_, by omega⟩
    rw [q1] at e1
    injection e1 with e1
    rw [e1, Nat.zero_mul]
  · rw [if_neg hh]; exact h.fr t'
theorem LoopG.ov {P : Program} {N : Nat} {c : Code} {S : AS} {K : Ex → AS → Prop} (t i : Nat) {e sz n : Nat} {sc : Bool} {f : Nat → Nat → L} (ht : fget S.fr t = .own i) (ho : S.obs[i]? = some (.row e sz n sc f)) (h : LoopG P N c (ovUp S t i sz n) K) : LoopG P N c S K :=
  ⟨fun w0 I0 σ I a w hd hN hr => h.sem w0 I0 _ I a w hd hN (hr.ovUp ht ho)⟩

def cutKO (n : Nat) (p q : Nat → Int) (L E : Int) (obs : List OB) (r : AV) : Prop := obs = [.row 47 2 (cn p L E n) false (c2 (fun j => ln p L E (cA p L E n + j)) (fun j => q (cA p L E n + j)))] ∧ r = .own 0
theorem cxcutO (lo v : Int) (n : Nat) (p q : Nat → Int) (low e : Int) (h : okCx lo v n p q) (h1 : lo ≤ low) (h2 : low ≤ e) (h3 : e ≤ lo + S p n) : Fn Try.prog 66 [cxV lo v n p q, intV low, intV e] (cutKO n p q (low - lo) (e - lo)) := by
  refine fn_of_wpx (O := lex) tab_ok gamXA_ok mixed Try.func66 (by kernel_rfl) rfl rfl rfl (by simp [Try.ntmps66]) (by kernel_rfl) ?_
  have hn := h.1
  have hb1 := h.2
  have hSn := h.sS (Nat.le_refl n)
  conv => whnf
  repeat' (first
    | (refine NilG.mk fun bn hbn hbx => ?_; conv => whnf)
    | (refine Both.mk ?_ ?_ <;> conv => whnf)
    | exact trivial
    | (refine Br.mk (fun hb => ?_) (fun hb => ?_) <;> (first | (exfalso; revert hb; decide) | ((try simp only [BL] at hb) <;> (try simp only [DL] at hb) <;> conv => whnf)))
    | (refine And.intro ?_ ?_; (focus (first | exact id | exact rfl | exact trivial | (intro hg; first | exact hg | exact rfl | (simp; done) | (simp at hg ⊢; assumption)) | omega | decide | exact is2_c _ _ _ | exact is1_c _ _ | exact isS_c _ _ | exact isB_c _ _ | exact Nat.le_refl _ | assumption | exact mulLe (by decide) (by omega) | exact mulLe2 (by decide) (by omega) (by omega) | (intros; simp only [BL] at *; omega) | (intros; (try simp only [BL] at *); (try simp only [DL] at *); omega) | (intros; simp only [BL] at *; rw [wr_id (by omega) (by omega)]; omega) | (intro h1 h2; exact Bool.and_eq_true_iff.2 ⟨h1, h2⟩) | (intros; simp_all; done))); conv => whnf)
    | (refine Or.inr (And.intro rfl ?_); first | (refine congrArg intV ?_) | (refine congrArg boolV ?_) | (refine tupII ?_ ?_) | (refine tupIII ?_ ?_ ?_) | (refine tupU ?_ ?_ ?_ ?_ ?_) | exact rfl))
  refine LoopG.nil 7 47 2 rfl ?_
  refine sem_loop tab_ok gamXA_ok mixed (by kernel_rfl) (O := lex) (fun i : Nat => ⟨[(17, intV i), (16, intV n), (15, .c (.sl 2 n (c2 p q))), (1, intV low), (2, intV e), (8, intV (lo + S p i)), (7, .own 0)], [.row 47 2 (cn p (low - lo) (e - lo) i) false (c2 (fun j => ln p (low - lo) (e - lo) (cA p (low - lo) (e - lo) n + j)) (fun j => q (cA p (low - lo) (e - lo) n + j)))]⟩) (fun i => i ≤ n ∧ cn p (low - lo) (e - lo) i ≤ i) (fun i => n - i) ⟨0, [?_], ⟨Nat.zero_le _, Nat.le_refl _⟩, ?_⟩ fun i hi => ?_
  rotate_left 1
  · refine Sub.of ?_ ?_ ?_
    repeat' (first | (refine And.intro ?_ ?_) | exact trivial | exact fun _ _ _ => hsc _ _ | (exact congrArg intV (by first | with_reducible rfl | with_reducible assumption)) | exact (rfl : AV.idsLt _ _ = true) | exact (rfl : _ = AV.ren _ (.own _)) | exact (rfl : _ = AV.ren _ (.fn _ _)) | exact (rfl : _ = AV.ren _ (.gh _)) | (exact congrArg intV (by assumption)) | (refine congrArg intV ((wr_id (by omega) (by omega)).trans (by omega))) | exact rfl | (simp only [Int.toNat_natCast, Int.toNat_zero, Nat.sub_zero, Nat.zero_add]; first | exact rfl | done) | exact all0 | exact fun h => Bool.noConfusion h | exact fun _ _ _ _ => rfl | omega)
    · exact congrArg intV (by simp [S])
  have hS := h.sS hi.1
  conv => whnf
  repeat' (first
    | (refine NilG.mk fun bn hbn hbx => ?_; conv => whnf)
    | (refine Both.mk ?_ ?_ <;> conv => whnf)
    | exact trivial
    | (refine Br.mk (fun hb => ?_) (fun hb => ?_) <;> (first | (exfalso; revert hb; decide) | ((try simp only [BL] at hb) <;> (try simp only [DL] at hb) <;> conv => whnf)))
    | (refine And.intro ?_ ?_; (focus (first | exact id | exact rfl | exact trivial | (intro hg; first | exact hg | exact rfl | (simp; done) | (simp at hg ⊢; assumption)) | omega | decide | exact is2_c _ _ _ | exact is1_c _ _ | exact isS_c _ _ | exact isB_c _ _ | exact Nat.le_refl _ | assumption | exact mulLe (by decide) (by omega) | exact mulLe2 (by decide) (by omega) (by omega) | (intros; simp only [BL] at *; omega) | (intros; (try simp only [BL] at *); (try simp only [DL] at *); omega) | (intros; simp only [BL] at *; rw [wr_id (by omega) (by omega)]; omega) | (intro h1 h2; exact Bool.and_eq_true_iff.2 ⟨h1, h2⟩) | (intros; simp_all; done))); conv => whnf)
    | (refine Or.inr (And.intro rfl ?_); first | (refine congrArg intV ?_) | (refine congrArg boolV ?_) | (refine tupII ?_ ?_) | (refine tupIII ?_ ?_ ?_) | (refine tupU ?_ ?_ ?_ ?_ ?_) | exact rfl))
  · have hp := h.pos
    have hS1 := h.sS (k := i + 1) (by omega)
    have hSS : S p (i + 1) = S p i + p i := rfl
    have e1 : IntKind.i64.wrap (lo + S p i + p i) = lo + S p (i + 1) := (wr_id (by omega) (by omega)).trans (by omega)
    have e2 : IntKind.i64.wrap (min e (IntKind.i64.wrap (lo + S p i + p i)) - max low (lo + S p i)) = ln p (low - lo) (e - lo) i := by
      rw [e1]
      unfold ln
      exact (wr_id (by omega) (by omega)).trans (by omega)
    have h4 : ln p (low - lo) (e - lo) i > 0 := by rw [← e2]; exact hb
    have e3 : cn p (low - lo) (e - lo) (i + 1) = cn p (low - lo) (e - lo) i + 1 := if_pos h4
    have e4 := cn_at hp (by omega) h4
    refine ⟨i + 1, [?_], ⟨by omega, by omega⟩, by omega, ?_⟩
    rotate_left 1
    refine Sub.of ?_ ?_ ?_
    repeat' (first | (refine And.intro ?_ ?_) | exact trivial | exact fun _ _ _ => hsc _ _ | (exact congrArg intV (by first | with_reducible rfl | with_reducible assumption)) | exact (rfl : AV.idsLt _ _ = true) | exact (rfl : _ = AV.ren _ (.own _)) | exact (rfl : _ = AV.ren _ (.fn _ _)) | exact (rfl : _ = AV.ren _ (.gh _)) | (exact congrArg intV (by assumption)) | (refine congrArg intV ((wr_id (by omega) (by omega)).trans (by omega))) | exact rfl | (simp only [Int.toNat_natCast, Int.toNat_zero, Nat.sub_zero, Nat.zero_add]; first | exact rfl | done) | exact all0 | exact fun h => Bool.noConfusion h | exact fun _ _ _ _ => rfl | omega)
    intro aq haq bq hbq
    by_cases hltq : aq < cn p (low - lo) (e - lo) i
    · exact if_pos hltq
    · obtain rfl : aq = cn p (low - lo) (e - lo) i := by omega
      refine (if_neg hltq).trans ?_
      rw [Nat.sub_self]
      revert bq hbq
      refine all2 (congrArg (fun z => L.v (.int .i64 z)) (e2.trans (congrArg (ln p (low - lo) (e - lo)) e4.symm))) (congrArg (fun z => L.v (.int .i64 (q z))) e4.symm)
  · have hp := h.pos
    have hS1 := h.sS (k := i + 1) (by omega)
    have hSS : S p (i + 1) = S p i + p i := rfl
    have e1 : IntKind.i64.wrap (lo + S p i + p i) = lo + S p (i + 1) := (wr_id (by omega) (by omega)).trans (by omega)
    have e2 : IntKind.i64.wrap (min e (IntKind.i64.wrap (lo + S p i + p i)) - max low (lo + S p i)) = ln p (low - lo) (e - lo) i := by
      rw [e1]
      unfold ln
      exact (wr_id (by omega) (by omega)).trans (by omega)
    have h4 : ¬ ln p (low - lo) (e - lo) i > 0 := by rw [← e2]; exact hb
    have e3 : cn p (low - lo) (e - lo) (i + 1) = cn p (low - lo) (e - lo) i := if_neg h4
    refine ⟨i + 1, [?_], ⟨by omega, by omega⟩, by omega, ?_⟩
    rotate_left 1
    refine Sub.of ?_ ?_ ?_
    repeat' (first | (refine And.intro ?_ ?_) | exact trivial | exact fun _ _ _ => hsc _ _ | (exact congrArg intV (by first | with_reducible rfl | with_reducible assumption)) | exact (rfl : AV.idsLt _ _ = true) | exact (rfl : _ = AV.ren _ (.own _)) | exact (rfl : _ = AV.ren _ (.fn _ _)) | exact (rfl : _ = AV.ren _ (.gh _)) | (exact congrArg intV (by assumption)) | (refine congrArg intV ((wr_id (by omega) (by omega)).trans (by omega))) | exact rfl | (simp only [Int.toNat_natCast, Int.toNat_zero, Nat.sub_zero, Nat.zero_add]; first | exact rfl | done) | exact all0 | exact fun h => Bool.noConfusion h | exact fun _ _ _ _ => rfl | omega)
  · have hin : i = n := by omega
    rw [hin]
    refine .inl ⟨[0], [.row 47 2 (cn p (low - lo) (e - lo) n) false (c2 (fun j => ln p (low - lo) (e - lo) (cA p (low - lo) (e - lo) n + j)) (fun j => q (cA p (low - lo) (e - lo) n + j)))], .own 0, rfl, ?_, rfl, rfl, rfl, rfl⟩
    all_goals repeat' (first | (refine And.intro ?_ ?_) | exact trivial | exact rfl | exact fun h => absurd h (by decide) | exact fun _ _ _ _ => rfl)
end Go.Proofs.Ytkkkldhilofgmaa
