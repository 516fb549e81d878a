/-
  Permits: New, Issue.
-/
import Derived.Test.YtemfikdogdadnaaPmO
namespace Go.Proofs.Ytemfikdogdadnaa
open Go.RowKit

abbrev paR (p : Pap) : OB := .row 110 3 p.n false (cPap p)
abbrev dkB (N : Nat) (dn : Nat → ByteArray) (last : Int) : OB := .box [.c (.sl 1 N (cS dn)), .own 1, intV last]
def p0 : Pap := ⟨0, fun _ => 0, fun _ => ByteArray.empty, fun _ => 0, fun _ _ => ByteArray.empty⟩
theorem Fn.nilC {P : Program} {f : FuncId} {args : List AV} {K K' : List OB → AV → Prop} (h : Fn P f args K)
    (hk : ∀ obs r, K obs r → K' obs r ∨ ∃ i off e sz cs, obs[i]? = some (.box cs) ∧ cs[off]? = some (.c (.v (.slice none 0 0))) ∧ K' (nilUpC ⟨[], obs⟩ i off e sz).obs r) : Fn P f args K' :=
  ⟨h.1, fun w I vs hI hd => (h.2 w I vs hI hd).mono fun e w' ⟨u, σ, I', obs, r, h1, h2, h3, h4, h5, h6, h7⟩ => by
    rcases hk obs r h2 with h8 | ⟨i, off, e0, sz, cs, ho, hc, h8⟩
    · exact ⟨u, σ, I', obs, r, h1, h8, h3, h4, h5, h6, h7⟩
    · have hrel : Rel ⟨w, fun b => w.heap.size ≤ b, fun _ => undef, fun _ h => h⟩ I ⟨[], obs⟩ σ I' #[] w' := ⟨⟨h3.os, h3.tape, h3.output, h3.size, fun b hb _ => h3.block b hb⟩, h6, fun t => by simp only [fget, Den], h4, h5, Nat.zero_le _⟩
      have hr := hrel.nilUpC e0 sz ho hc
      exact ⟨u, _, I', _, r, h1, h8, h3, h4, h5, hr.st, h7.mono (Asg.le_ext σ _ _) (Keeps.refl _ _) (fun _ h => h)⟩⟩
theorem pmCl0 (n : Nat) (p : Nat → ByteArray) (hn : n ≤ 1000) : Fn Try.prog 37 [.c (.sl 1 n (cS p))] (fun obs r => obs = [] ∧ (r = .c (.sl 1 n (cS p)) ∨ n = 0 ∧ r = .c (.v (.slice none 0 0)))) := by
  refine fn_of_wpx (O := lex) tab_ok gamN1_ok mixed Try.func37 (by kernel_rfl) rfl rfl rfl (by simp [Try.ntmps37]) (by kernel_rfl) ?_
  conv => whnf
  repeat' (first
    | (refine NilG.mk fun bn hbn hbx => ?_; conv => whnf)
    | (refine Both.mk ?_ ?_ <;> conv => whnf)
    | ((first | (refine MkG.box 1 rfl rfl rfl (by decide) ?_) | (refine MkG.box 2 rfl rfl rfl (by decide) ?_) | (refine MkG.box 3 rfl rfl rfl (by decide) ?_) | (refine MkG.row ?_)); conv => whnf)
    | exact trivial
    | (refine Br.mk (fun hb => ?_) (fun hb => ?_) <;> (first | (exfalso; revert hb; decide) | ((try simp only [BL] at hb) <;> (try simp only [DL] at hb) <;> conv => whnf)))
    | (refine And.intro ?_ ?_; (focus (first | exact id | exact rfl | exact trivial | (intro hg; first | exact hg | exact rfl | (simp; done) | (simp at hg ⊢; assumption)) | omega | decide | exact is2_c _ _ _ | exact is1_c _ _ | exact isS_c _ _ | exact isB_c _ _ | exact Nat.le_refl _ | assumption | exact mulLe (by decide) (by omega) | exact mulLe2 (by decide) (by omega) (by omega) | (intros; simp only [BL] at *; omega) | (intros; (try simp only [BL] at *); (try simp only [DL] at *); omega) | (intros; simp only [BL] at *; rw [wr_id (by omega) (by omega)]; omega) | (intro h1 h2; exact Bool.and_eq_true_iff.2 ⟨h1, h2⟩) | (intros; simp_all; done))); conv => whnf)
    | (refine Or.inr (And.intro rfl ?_); first | (refine congrArg intV ?_) | (refine congrArg boolV ?_) | (refine tupII ?_ ?_) | (refine tupIII ?_ ?_ ?_) | (refine tupU ?_ ?_ ?_ ?_ ?_) | exact rfl))
  · exact .inr ⟨rfl, .inr ⟨hbn (by simpa using hb), rfl⟩⟩
  · refine .inr ⟨rfl, .inl ?_⟩
    show AV.c (.sl 1 (0 + n) fun k j => if k < 0 then _ else cS p (k - 0) j) = _
    rw [Nat.zero_add]
    rfl
theorem pmCl (n : Nat) (p : Nat → ByteArray) (hn : n ≤ 1000) : Fn1 Try.prog 37 [.c (.sl 1 n (cS p))] (.c (.sl 1 n (cS p))) :=
  (pmCl0 n p hn).res fun obs r ⟨h1, h2⟩ => by
    rcases h2 with h2 | ⟨h2, h3⟩
    · exact ⟨_, ⟨h1, rfl⟩, h2 ▸ Le1.refl _⟩
    · subst h2 h3
      exact ⟨_, ⟨h1, rfl⟩, Le1.nil⟩
theorem nmsE_le {n : Nat} {p : Nat → ByteArray} (h : nmsE n p = 0) : n ≤ 256 := by
  unfold nmsE at h
  split at h
  · cases h
  · omega
theorem pmNewE (N : Nat) (dn : Nat → ByteArray) (h : nmOk N dn) (h0 : ¬ nmsE N dn = 0) : Fn1 Try.prog 11 [.c (.sl 1 N (cS dn))] (.tup [.c (.v (.pointer none)), intV (nmsE N dn)]) := by
  refine fn_of_wpx (O := lex) tab_ok gamPb_ok mixed Try.func11 (by kernel_rfl) rfl rfl rfl (by simp [Try.ntmps11]) (by kernel_rfl) ?_
  conv => whnf
  repeat' (first
    | (refine NilG.mk fun bn hbn hbx => ?_; conv => whnf)
    | (refine Both.mk ?_ ?_ <;> conv => whnf)
    | ((first | (refine MkG.box 1 rfl rfl rfl (by decide) ?_) | (refine MkG.box 2 rfl rfl rfl (by decide) ?_) | (refine MkG.box 3 rfl rfl rfl (by decide) ?_) | (refine MkG.row ?_)); conv => whnf)
    | exact trivial
    | (refine Br.mk (fun hb => ?_) (fun hb => ?_) <;> (first | (exfalso; revert hb; decide) | ((try simp only [BL] at hb) <;> (try simp only [DL] at hb) <;> (first | (exfalso; omega) | (conv => whnf)))))
    | (refine And.intro ?_ ?_; (focus (first | exact id | exact rfl | exact trivial | (intro hg; first | exact hg | exact rfl | (simp; done) | (simp at hg ⊢; assumption)) | omega | decide | exact is2_c _ _ _ | exact is1_c _ _ | exact isS_c _ _ | exact isB_c _ _ | exact Nat.le_refl _ | assumption | exact mulLe (by decide) (by omega) | exact mulLe2 (by decide) (by omega) (by omega) | (intros; simp only [BL] at *; omega) | (intros; (try simp only [BL] at *); (try simp only [DL] at *); omega) | (intros; simp only [BL] at *; rw [wr_id (by omega) (by omega)]; omega) | (intro h1 h2; exact Bool.and_eq_true_iff.2 ⟨h1, h2⟩) | exact ⟨isS_c _ _, h⟩ | (intros; simp_all; done))); conv => whnf)
    | (refine Or.inr (And.intro rfl ?_); first | (refine congrArg intV ?_) | (refine congrArg boolV ?_) | (refine tupII ?_ ?_) | (refine tupIII ?_ ?_ ?_) | (refine tupU ?_ ?_ ?_ ?_ ?_) | exact rfl))
  all_goals first | rfl | exact absurd hb h0 | skip
  all_goals trace_state
theorem pmNew0 (N : Nat) (dn : Nat → ByteArray) (h : nmOk N dn) (h0 : nmsE N dn = 0) : Fn Try.prog 11 [.c (.sl 1 N (cS dn))] (fun obs r => obs = [.box [.c (.sl 1 N (cS dn)), .c (.v (.slice none 0 0)), intV 0]] ∧ r = .tup [.lp 0 0, intV 0]) := by
  refine fn_of_wpx (O := lex) tab_ok gamPb_ok mixed Try.func11 (by kernel_rfl) rfl rfl rfl (by simp [Try.ntmps11]) (by kernel_rfl) ?_
  have hN := nmsE_le h0
  conv => whnf
  repeat' (first
    | (refine NilG.mk fun bn hbn hbx => ?_; conv => whnf)
    | (refine Both.mk ?_ ?_ <;> conv => whnf)
    | ((first | (refine MkG.box 1 rfl rfl rfl (by decide) ?_) | (refine MkG.box 2 rfl rfl rfl (by decide) ?_) | (refine MkG.box 3 rfl rfl rfl (by decide) ?_) | (refine MkG.row ?_)); conv => whnf)
    | exact trivial
    | (refine Br.mk (fun hb => ?_) (fun hb => ?_) <;> (first | (exfalso; revert hb; decide) | ((try simp only [BL] at hb) <;> (try simp only [DL] at hb) <;> (first | (exfalso; omega) | (conv => whnf)))))
    | (refine And.intro ?_ ?_; (focus (first | exact id | exact rfl | exact trivial | (intro hg; first | exact hg | exact rfl | (simp; done) | (simp at hg ⊢; assumption)) | omega | decide | exact is2_c _ _ _ | exact is1_c _ _ | exact isS_c _ _ | exact isB_c _ _ | exact Nat.le_refl _ | assumption | exact mulLe (by decide) (by omega) | exact mulLe2 (by decide) (by omega) (by omega) | (intros; simp only [BL] at *; omega) | (intros; (try simp only [BL] at *); (try simp only [DL] at *); omega) | (intros; simp only [BL] at *; rw [wr_id (by omega) (by omega)]; omega) | (intro h1 h2; exact Bool.and_eq_true_iff.2 ⟨h1, h2⟩) | exact ⟨isS_c _ _, h⟩ | (intros; simp_all; done))); conv => whnf)
    | (refine Or.inr (And.intro rfl ?_); first | (refine congrArg intV ?_) | (refine congrArg boolV ?_) | (refine tupII ?_ ?_) | (refine tupIII ?_ ?_ ?_) | (refine tupU ?_ ?_ ?_ ?_ ?_) | exact rfl))
  refine CallG.mk (Fn.mono (pmCl N dn (by omega)) ?_)
  rintro obs r ⟨rfl, rfl⟩
  conv => whnf
  repeat' (first
    | (refine NilG.mk fun bn hbn hbx => ?_; conv => whnf)
    | (refine Both.mk ?_ ?_ <;> conv => whnf)
    | ((first | (refine MkG.box 1 rfl rfl rfl (by decide) ?_) | (refine MkG.box 2 rfl rfl rfl (by decide) ?_) | (refine MkG.box 3 rfl rfl rfl (by decide) ?_) | (refine MkG.row ?_)); conv => whnf)
    | exact trivial
    | (refine Br.mk (fun hb => ?_) (fun hb => ?_) <;> (first | (exfalso; revert hb; decide) | ((try simp only [BL] at hb) <;> (try simp only [DL] at hb) <;> (first | (exfalso; omega) | (conv => whnf)))))
    | (refine And.intro ?_ ?_; (focus (first | exact id | exact rfl | exact trivial | (intro hg; first | exact hg | exact rfl | (simp; done) | (simp at hg ⊢; assumption)) | omega | decide | exact is2_c _ _ _ | exact is1_c _ _ | exact isS_c _ _ | exact isB_c _ _ | exact Nat.le_refl _ | assumption | exact mulLe (by decide) (by omega) | exact mulLe2 (by decide) (by omega) (by omega) | (intros; simp only [BL] at *; omega) | (intros; (try simp only [BL] at *); (try simp only [DL] at *); omega) | (intros; simp only [BL] at *; rw [wr_id (by omega) (by omega)]; omega) | (intro h1 h2; exact Bool.and_eq_true_iff.2 ⟨h1, h2⟩) | (intros; simp_all; done))); conv => whnf)
    | (refine Or.inr (And.intro rfl ?_); first | (refine congrArg intV ?_) | (refine congrArg boolV ?_) | (refine tupII ?_ ?_) | (refine tupIII ?_ ?_ ?_) | (refine tupU ?_ ?_ ?_ ?_ ?_) | exact rfl))
  refine .inl ⟨[0], [.box [.c (.sl 1 N (cS dn)), .c (.v (.slice none 0 0)), intV 0]], .tup [.lp 0 0, intV 0], rfl, ?_, rfl, rfl, rfl, rfl⟩
  all_goals repeat' (first | (refine And.intro ?_ ?_) | exact trivial | exact rfl | exact fun h => Bool.noConfusion h | exact fun _ _ _ _ => rfl)
abbrev paR0 : OB := .row 110 3 0 true fun _ _ => .v undef
theorem pmNew (N : Nat) (dn : Nat → ByteArray) (h : nmOk N dn) (h0 : nmsE N dn = 0) : Fn Try.prog 11 [.c (.sl 1 N (cS dn))] (fun obs r => obs = [dkB N dn 0, paR0] ∧ r = .tup [.lp 0 0, intV 0]) :=
  (pmNew0 N dn h h0).nilC fun obs r ⟨h1, h2⟩ => by
    subst h1 h2
    exact .inr ⟨0, 1, 110, 3, _, rfl, rfl, rfl, rfl⟩
abbrev ptB : OB := .box [.lp 0 0]
theorem pmI1 (N : Nat) (dn : Nat → ByteArray) (last : Int) (p : Pap) (s : ByteArray) (hN : N ≤ maxLen) : FnM Try.prog 40 [dkB N dn last, paR p, ptB] [strV s, .lp 2 0] (fun obs r => obs = [dkB N dn last, paR p, ptB] ∧ r = boolV (!hasB dn N s)) := by
  refine fnM_of_wpx (O := lex) tab_ok gamPb_ok mixed Try.func40 (by kernel_rfl) rfl rfl rfl (by simp [Try.ntmps40]) (by kernel_rfl) ?_
  conv => whnf
  repeat' (first
    | (refine NilG.mk fun bn hbn hbx => ?_; conv => whnf)
    | (refine Both.mk ?_ ?_ <;> conv => whnf)
    | ((first | (refine MkG.box 1 rfl rfl rfl (by decide) ?_) | (refine MkG.box 2 rfl rfl rfl (by decide) ?_) | (refine MkG.box 3 rfl rfl rfl (by decide) ?_) | (refine MkG.row ?_)); conv => whnf)
    | exact trivial
    | (refine Br.mk (fun hb => ?_) (fun hb => ?_) <;> (first | (exfalso; revert hb; decide) | ((try simp only [BL] at hb) <;> (try simp only [DL] at hb) <;> (first | (exfalso; omega) | (conv => whnf)))))
    | (refine And.intro ?_ ?_; (focus (first | exact id | exact rfl | exact trivial | (intro hg; first | exact hg | exact rfl | (simp; done) | (simp at hg ⊢; assumption)) | omega | decide | exact is2_c _ _ _ | exact is1_c _ _ | exact isS_c _ _ | exact isB_c _ _ | exact Nat.le_refl _ | assumption | exact mulLe (by decide) (by omega) | exact mulLe2 (by decide) (by omega) (by omega) | (intros; simp only [BL] at *; omega) | (intros; (try simp only [BL] at *); (try simp only [DL] at *); omega) | (intros; simp only [BL] at *; rw [wr_id (by omega) (by omega)]; omega) | (intro h1 h2; exact Bool.and_eq_true_iff.2 ⟨h1, h2⟩) | exact ⟨isS_c _ _, hN⟩ | (intros; simp_all; done))); conv => whnf)
    | (refine Or.inr (And.intro rfl ?_); first | (refine congrArg intV ?_) | (refine congrArg boolV ?_) | (refine tupII ?_ ?_) | (refine tupIII ?_ ?_ ?_) | (refine tupU ?_ ?_ ?_ ?_ ?_) | exact rfl))
  refine ⟨[0, 1, 2], [dkB N dn last, paR p, ptB], boolV (!hasB dn N s), rfl, ?_, rfl, rfl, ?_, Nat.le_refl _, rfl, rfl⟩
  all_goals repeat' (first | (refine And.intro ?_ ?_) | exact trivial | exact rfl | exact fun h => Bool.noConfusion h | exact fun _ _ _ _ => rfl)
theorem pmI2 (N : Nat) (dn : Nat → ByteArray) (last : Int) (p : Pap) (m : Nat) (ds : Nat → ByteArray) (hN : N ≤ maxLen) (hm : m ≤ maxLen) : FnM Try.prog 74 [dkB N dn last, paR p, ptB] [.c (.sl 1 m (cS ds)), .fn 40 [.lp 2 0]] (fun obs r => obs = [dkB N dn last, paR p, ptB] ∧ r = intV (fidx (fun k => !hasB dn N (ds k)) m)) := by
  refine fnM_of_wpx (O := lex) tab_ok gamPb_ok mixed Try.func74 (by kernel_rfl) rfl rfl rfl (by simp [Try.ntmps74]) (by kernel_rfl) ?_
  have hm' : m ≤ 9223372036854775807 := hm
  conv => whnf
  repeat' (first
    | (refine NilG.mk fun bn hbn hbx => ?_; conv => whnf)
    | (refine Both.mk ?_ ?_ <;> conv => whnf)
    | ((first | (refine MkG.box 1 rfl rfl rfl (by decide) ?_) | (refine MkG.box 2 rfl rfl rfl (by decide) ?_) | (refine MkG.box 3 rfl rfl rfl (by decide) ?_) | (refine MkG.row ?_)); conv => whnf)
    | exact trivial
    | (refine Br.mk (fun hb => ?_) (fun hb => ?_) <;> (first | (exfalso; revert hb; decide) | ((try simp only [BL] at hb) <;> (try simp only [DL] at hb) <;> (first | (exfalso; omega) | (conv => whnf)))))
    | (refine And.intro ?_ ?_; (focus (first | exact id | exact rfl | exact trivial | (intro hg; first | exact hg | exact rfl | (simp; done) | (simp at hg ⊢; assumption)) | omega | decide | exact is2_c _ _ _ | exact is1_c _ _ | exact isS_c _ _ | exact isB_c _ _ | exact Nat.le_refl _ | assumption | exact mulLe (by decide) (by omega) | exact mulLe2 (by decide) (by omega) (by omega) | (intros; simp only [BL] at *; omega) | (intros; (try simp only [BL] at *); (try simp only [DL] at *); omega) | (intros; simp only [BL] at *; rw [wr_id (by omega) (by omega)]; omega) | (intro h1 h2; exact Bool.and_eq_true_iff.2 ⟨h1, h2⟩) | (intros; simp_all; done))); conv => whnf)
    | (refine Or.inr (And.intro rfl ?_); first | (refine congrArg intV ?_) | (refine congrArg boolV ?_) | (refine tupII ?_ ?_) | (refine tupIII ?_ ?_ ?_) | (refine tupU ?_ ?_ ?_ ?_ ?_) | exact rfl))
  refine sem_loop tab_ok gamPb_ok mixed (by kernel_rfl) (O := lex) (fun i : Nat => ⟨[(0, .c (.sl 1 m (cS ds))), (1, .fn 40 [.lp 2 0]), (7, intV m), (8, intV i), (1000000, .gh 0), (1000001, .gh 1), (1000002, .gh 2)], [dkB N dn last, paR p, ptB]⟩) (fun i => i ≤ m ∧ ∀ k, k < i → (!hasB dn N (ds k)) = false) (fun i => m - i) ⟨0, [?_, ?_, ?_], ⟨Nat.zero_le _, fun k hk => absurd hk (Nat.not_lt_zero _)⟩, ?_⟩ fun i hi => ?_
  rotate_left 3
  · refine Sub.of ?_ ?_ ?_
    repeat' (first | (refine And.intro ?_ ?_) | exact trivial | exact fun _ _ _ => hsc _ _ | (exact congrArg intV (by first | with_reducible rfl | with_reducible assumption)) | exact (rfl : AV.idsLt _ _ = true) | exact (rfl : _ = AV.ren _ (.own _)) | exact (rfl : _ = AV.ren _ (.fn _ _)) | exact (rfl : _ = AV.ren _ (.gh _)) | (exact congrArg intV (by assumption)) | (refine congrArg intV ((wr_id (by omega) (by omega)).trans (by omega))) | exact rfl | (simp only [Int.toNat_natCast, Int.toNat_zero, Nat.sub_zero, Nat.zero_add]; first | exact rfl | done) | exact all0 | exact fun h => Bool.noConfusion h | exact fun _ _ _ _ => rfl | omega)
  conv => whnf
  repeat' (first
    | (refine NilG.mk fun bn hbn hbx => ?_; conv => whnf)
    | (refine Both.mk ?_ ?_ <;> conv => whnf)
    | ((first | (refine MkG.box 1 rfl rfl rfl (by decide) ?_) | (refine MkG.box 2 rfl rfl rfl (by decide) ?_) | (refine MkG.box 3 rfl rfl rfl (by decide) ?_) | (refine MkG.row ?_)); conv => whnf)
    | exact trivial
    | (refine Br.mk (fun hb => ?_) (fun hb => ?_) <;> (first | (exfalso; revert hb; decide) | ((try simp only [BL] at hb) <;> (try simp only [DL] at hb) <;> (first | (exfalso; omega) | (conv => whnf)))))
    | (refine And.intro ?_ ?_; (focus (first | exact id | exact rfl | exact trivial | (intro hg; first | exact hg | exact rfl | (simp; done) | (simp at hg ⊢; assumption)) | omega | decide | exact is2_c _ _ _ | exact is1_c _ _ | exact isS_c _ _ | exact isB_c _ _ | exact Nat.le_refl _ | assumption | exact mulLe (by decide) (by omega) | exact mulLe2 (by decide) (by omega) (by omega) | (intros; simp only [BL] at *; omega) | (intros; (try simp only [BL] at *); (try simp only [DL] at *); omega) | (intros; simp only [BL] at *; rw [wr_id (by omega) (by omega)]; omega) | (intro h1 h2; exact Bool.and_eq_true_iff.2 ⟨h1, h2⟩) | (intros; simp_all; done))); conv => whnf)
    | (refine Or.inr (And.intro rfl ?_); first | (refine congrArg intV ?_) | (refine congrArg boolV ?_) | (refine tupII ?_ ?_) | (refine tupIII ?_ ?_ ?_) | (refine tupU ?_ ?_ ?_ ?_ ?_) | exact rfl))
  · refine CallG.wr [0, 1, 2] rfl (FnM.mono (pmI1 N dn last p (ds i) hN) ?_)
    rintro obs r ⟨rfl, rfl⟩
    conv => whnf
    repeat' (first
      | (refine NilG.mk fun bn hbn hbx => ?_; conv => whnf)
      | (refine Both.mk ?_ ?_ <;> conv => whnf)
      | ((first | (refine MkG.box 1 rfl rfl rfl (by decide) ?_) | (refine MkG.box 2 rfl rfl rfl (by decide) ?_) | (refine MkG.box 3 rfl rfl rfl (by decide) ?_) | (refine MkG.row ?_)); conv => whnf)
      | exact trivial
      | (refine Br.mk (fun hb => ?_) (fun hb => ?_) <;> (first | (exfalso; revert hb; decide) | ((try simp only [BL] at hb) <;> (try simp only [DL] at hb) <;> (first | (exfalso; omega) | (conv => whnf)))))
      | (refine And.intro ?_ ?_; (focus (first | exact id | exact rfl | exact trivial | (intro hg; first | exact hg | exact rfl | (simp; done) | (simp at hg ⊢; assumption)) | omega | decide | exact is2_c _ _ _ | exact is1_c _ _ | exact isS_c _ _ | exact isB_c _ _ | exact Nat.le_refl _ | assumption | exact mulLe (by decide) (by omega) | exact mulLe2 (by decide) (by omega) (by omega) | (intros; simp only [BL] at *; omega) | (intros; (try simp only [BL] at *); (try simp only [DL] at *); omega) | (intros; simp only [BL] at *; rw [wr_id (by omega) (by omega)]; omega) | (intro h1 h2; exact Bool.and_eq_true_iff.2 ⟨h1, h2⟩) | (intros; simp_all; done))); conv => whnf)
      | (refine Or.inr (And.intro rfl ?_); first | (refine congrArg intV ?_) | (refine congrArg boolV ?_) | (refine tupII ?_ ?_) | (refine tupIII ?_ ?_ ?_) | (refine tupU ?_ ?_ ?_ ?_ ?_) | exact rfl))
    · refine ⟨[0, 1, 2], [dkB N dn last, paR p, ptB], intV i, rfl, ?_, rfl, rfl, ?_, Nat.le_refl _, rfl, ?_⟩
      iterate 2 · all_goals repeat' (first | (refine And.intro ?_ ?_) | exact trivial | exact rfl | exact fun h => Bool.noConfusion h | exact fun _ _ _ _ => rfl)
      · rw [fidx_at hi.2 (by rw [hb]; rfl) (by omega)]
    · have h1 : (!hasB dn N (ds i)) = false := by rw [hb]; rfl
      refine ⟨i + 1, [?_, ?_, ?_], ⟨by omega, fun k hk => by rcases Nat.lt_succ_iff_lt_or_eq.1 hk with h | rfl <;> first | exact hi.2 k h | exact h1⟩, by omega, ?_⟩
      rotate_left 3
      refine Sub.of ?_ ?_ ?_
      repeat' (first | (refine And.intro ?_ ?_) | exact trivial | exact fun _ _ _ => hsc _ _ | (exact congrArg intV (by first | with_reducible rfl | with_reducible assumption)) | exact (rfl : AV.idsLt _ _ = true) | exact (rfl : _ = AV.ren _ (.own _)) | exact (rfl : _ = AV.ren _ (.fn _ _)) | exact (rfl : _ = AV.ren _ (.gh _)) | (exact congrArg intV (by assumption)) | (refine congrArg intV ((wr_id (by omega) (by omega)).trans (by omega))) | exact rfl | (simp only [Int.toNat_natCast, Int.toNat_zero, Nat.sub_zero, Nat.zero_add]; first | exact rfl | done) | exact all0 | exact fun h => Bool.noConfusion h | exact fun _ _ _ _ => rfl | omega)
  · obtain rfl : i = m := by omega
    refine ⟨[0, 1, 2], [dkB N dn last, paR p, ptB], intV (-1), rfl, ?_, rfl, rfl, ?_, Nat.le_refl _, rfl, ?_⟩
    iterate 2 · all_goals repeat' (first | (refine And.intro ?_ ?_) | exact trivial | exact rfl | exact fun h => Bool.noConfusion h | exact fun _ _ _ _ => rfl)
    · rw [fidx_none hi.2]
theorem allB_iff {N : Nat} {dn : Nat → ByteArray} {m : Nat} {ds : Nat → ByteArray} : fidx (fun k => !hasB dn N (ds k)) m < 0 ↔ allB N dn m ds := by
  constructor
  · intro h k hk
    have h1 := fidx_neg (b := fun k => !hasB dn N (ds k)) (n := m) (by omega) k hk
    simpa using h1
  · intro h
    rw [fidx_none (b := fun k => !hasB dn N (ds k)) fun k hk => by show (!hasB dn N (ds k)) = false; rw [h k hk]; rfl]
    decide
theorem pmI3 (N : Nat) (dn : Nat → ByteArray) (last : Int) (p : Pap) (m : Nat) (ds : Nat → ByteArray) (hN : N ≤ maxLen) (hm : m ≤ maxLen) : FnM Try.prog 39 [dkB N dn last, paR p, ptB] [.c (.sl 1 m (cS ds)), .fn 40 [.lp 2 0]] (fun obs r => obs = [dkB N dn last, paR p, ptB] ∧ r = boolV (!decide (allB N dn m ds))) := by
  refine fnM_of_wpx (O := lex) tab_ok gamPb_ok mixed Try.func39 (by kernel_rfl) rfl rfl rfl (by simp [Try.ntmps39]) (by kernel_rfl) ?_
  conv => whnf
  repeat' (first
    | (refine NilG.mk fun bn hbn hbx => ?_; conv => whnf)
    | (refine Both.mk ?_ ?_ <;> conv => whnf)
    | ((first | (refine MkG.box 1 rfl rfl rfl (by decide) ?_) | (refine MkG.box 2 rfl rfl rfl (by decide) ?_) | (refine MkG.box 3 rfl rfl rfl (by decide) ?_) | (refine MkG.row ?_)); conv => whnf)
    | exact trivial
    | (refine Br.mk (fun hb => ?_) (fun hb => ?_) <;> (first | (exfalso; revert hb; decide) | ((try simp only [BL] at hb) <;> (try simp only [DL] at hb) <;> (first | (exfalso; omega) | (conv => whnf)))))
    | (refine And.intro ?_ ?_; (focus (first | exact id | exact rfl | exact trivial | (intro hg; first | exact hg | exact rfl | (simp; done) | (simp at hg ⊢; assumption)) | omega | decide | exact is2_c _ _ _ | exact is1_c _ _ | exact isS_c _ _ | exact isB_c _ _ | exact Nat.le_refl _ | assumption | exact mulLe (by decide) (by omega) | exact mulLe2 (by decide) (by omega) (by omega) | (intros; simp only [BL] at *; omega) | (intros; (try simp only [BL] at *); (try simp only [DL] at *); omega) | (intros; simp only [BL] at *; rw [wr_id (by omega) (by omega)]; omega) | (intro h1 h2; exact Bool.and_eq_true_iff.2 ⟨h1, h2⟩) | (intros; simp_all; done))); conv => whnf)
    | (refine Or.inr (And.intro rfl ?_); first | (refine congrArg intV ?_) | (refine congrArg boolV ?_) | (refine tupII ?_ ?_) | (refine tupIII ?_ ?_ ?_) | (refine tupU ?_ ?_ ?_ ?_ ?_) | exact rfl))
  refine CallG.wr [0, 1, 2] rfl (FnM.mono (pmI2 N dn last p m ds hN hm) ?_)
  rintro obs r ⟨rfl, rfl⟩
  conv => whnf
  repeat' (first
    | (refine NilG.mk fun bn hbn hbx => ?_; conv => whnf)
    | (refine Both.mk ?_ ?_ <;> conv => whnf)
    | ((first | (refine MkG.box 1 rfl rfl rfl (by decide) ?_) | (refine MkG.box 2 rfl rfl rfl (by decide) ?_) | (refine MkG.box 3 rfl rfl rfl (by decide) ?_) | (refine MkG.row ?_)); conv => whnf)
    | exact trivial
    | (refine Br.mk (fun hb => ?_) (fun hb => ?_) <;> (first | (exfalso; revert hb; decide) | ((try simp only [BL] at hb) <;> (try simp only [DL] at hb) <;> (first | (exfalso; omega) | (conv => whnf)))))
    | (refine And.intro ?_ ?_; (focus (first | exact id | exact rfl | exact trivial | (intro hg; first | exact hg | exact rfl | (simp; done) | (simp at hg ⊢; assumption)) | omega | decide | exact is2_c _ _ _ | exact is1_c _ _ | exact isS_c _ _ | exact isB_c _ _ | exact Nat.le_refl _ | assumption | exact mulLe (by decide) (by omega) | exact mulLe2 (by decide) (by omega) (by omega) | (intros; simp only [BL] at *; omega) | (intros; (try simp only [BL] at *); (try simp only [DL] at *); omega) | (intros; simp only [BL] at *; rw [wr_id (by omega) (by omega)]; omega) | (intro h1 h2; exact Bool.and_eq_true_iff.2 ⟨h1, h2⟩) | (intros; simp_all; done))); conv => whnf)
    | (refine Or.inr (And.intro rfl ?_); first | (refine congrArg intV ?_) | (refine congrArg boolV ?_) | (refine tupII ?_ ?_) | (refine tupIII ?_ ?_ ?_) | (refine tupU ?_ ?_ ?_ ?_ ?_) | exact rfl))
  refine ⟨[0, 1, 2], [dkB N dn last, paR p, ptB], boolV (decide (fidx (fun k => !hasB dn N (ds k)) m ≥ 0)), rfl, ?_, rfl, rfl, ?_, Nat.le_refl _, rfl, ?_⟩
  iterate 2 · all_goals repeat' (first | (refine And.intro ?_ ?_) | exact trivial | exact rfl | exact fun h => Bool.noConfusion h | exact fun _ _ _ _ => rfl)
  · congr 1
    by_cases h : allB N dn m ds
    · rw [decide_eq_true h, decide_eq_false (by have := allB_iff.2 h; omega)]; rfl
    · rw [decide_eq_false h, decide_eq_true (by have := mt allB_iff.1 h; omega)]; rfl
theorem pmIssE (N : Nat) (dn : Nat → ByteArray) (last : Int) (p : Pap) (ho : ByteArray) (m : Nat) (ds : Nat → ByteArray) (hN : N ≤ maxLen) (hho : ho.size ≤ maxLen) (hm : nmOk m ds) (h0 : ¬ isE N dn ho m ds p.n = 0) : FnM Try.prog 12 [dkB N dn last, paR p] [.lp 0 0, strV ho, .c (.sl 1 m (cS ds))] (fun obs r => obs = [dkB N dn last, paR p] ∧ r = .tup [intV 0, intV (isE N dn ho m ds p.n)]) := by
  refine fnM_of_wpx (O := pm_ord) tab_ok gamPb_ok mixed Try.func12 (by kernel_rfl) rfl rfl rfl (by simp [Try.ntmps12]) (by rw [Bool.and_eq_true]; exact ⟨by kernel_rfl, codeOkX_ok (sk := fun i => i == 15) _ (by kernel_rfl) pm_mem⟩) ?_
  conv => whnf
  repeat' (first
    | (refine NilG.mk fun bn hbn hbx => ?_; conv => whnf)
    | (refine Both.mk ?_ ?_ <;> conv => whnf)
    | ((first | (refine MkG.box 1 rfl rfl rfl (by decide) ?_) | (refine MkG.box 2 rfl rfl rfl (by decide) ?_) | (refine MkG.box 3 rfl rfl rfl (by decide) ?_) | (refine MkG.row ?_)); conv => whnf)
    | exact trivial
    | (refine Br.mk (fun hb => ?_) (fun hb => ?_) <;> (first | (exfalso; revert hb; decide) | ((try simp only [BL] at hb) <;> (try simp only [DL] at hb) <;> (first | (exfalso; omega) | (conv => whnf)))))
    | (refine And.intro ?_ ?_; (focus (first | exact id | exact rfl | exact trivial | (intro hg; first | exact hg | exact rfl | (simp; done) | (simp at hg ⊢; assumption)) | omega | decide | exact is2_c _ _ _ | exact is1_c _ _ | exact isS_c _ _ | exact isB_c _ _ | exact Nat.le_refl _ | assumption | exact mulLe (by decide) (by omega) | exact mulLe2 (by decide) (by omega) (by omega) | (intros; simp only [BL] at *; omega) | (intros; (try simp only [BL] at *); (try simp only [DL] at *); omega) | (intros; simp only [BL] at *; rw [wr_id (by omega) (by omega)]; omega) | (intro h1 h2; exact Bool.and_eq_true_iff.2 ⟨h1, h2⟩) | first | exact hho | exact ⟨isS_c _ _, hm⟩ | (intros; simp_all; done))); conv => whnf)
    | (refine Or.inr (And.intro rfl ?_); first | (refine congrArg intV ?_) | (refine congrArg boolV ?_) | (refine tupII ?_ ?_) | (refine tupIII ?_ ?_ ?_) | (refine tupU ?_ ?_ ?_ ?_ ?_) | exact rfl))
  · refine ⟨[0, 1], [dkB N dn last, paR p], .tup [intV 0, intV 6], rfl, ?_, rfl, rfl, ?_, Nat.le_refl _, rfl, ?_⟩
    iterate 2 · all_goals repeat' (first | (refine And.intro ?_ ?_) | exact trivial | exact rfl | exact fun h => Bool.noConfusion h | exact fun _ _ _ _ => rfl)
    · have h1 : isE N dn ho m ds p.n = 6 := if_neg (by rw [hb]; decide)
      rw [h1]
  · rename_i h1
    have h2 : isE N dn ho m ds p.n = nmsE m ds := (if_pos h1).trans (if_neg hb)
    refine ⟨[0, 1], [dkB N dn last, paR p], .tup [intV 0, intV (nmsE m ds)], rfl, ?_, rfl, rfl, ?_, Nat.le_refl _, rfl, ?_⟩
    iterate 2 · all_goals repeat' (first | (refine And.intro ?_ ?_) | exact trivial | exact rfl | exact fun h => Bool.noConfusion h | exact fun _ _ _ _ => rfl)
    · rw [h2]
  rename_i h1
  have h2 : isE N dn ho m ds p.n = if allB N dn m ds then (if m = 0 then 3 else if 12 < m then 2 else if p.n = 20 then 9 else 0) else 8 := (if_pos h1).trans (if_pos hb)
  clear hb
  refine CallG.wr [0, 1, 2] rfl (FnM.mono (pmI3 N dn last p m ds hN hm.1) ?_)
  rintro obs r ⟨rfl, rfl⟩
  by_cases h3 : allB N dn m ds
  · rw [decide_eq_true h3]
    rw [if_pos h3] at h2
    have h9 : m = 0 ∨ 12 < m ∨ p.n = 20 := by
      refine Decidable.byContradiction fun h => h0 ?_
      rw [h2, if_neg (by omega), if_neg (by omega), if_neg (by omega)]
    conv => whnf
    repeat' (first
      | (refine NilG.mk fun bn hbn hbx => ?_; conv => whnf)
      | (refine Both.mk ?_ ?_ <;> conv => whnf)
      | ((first | (refine MkG.box 1 rfl rfl rfl (by decide) ?_) | (refine MkG.box 2 rfl rfl rfl (by decide) ?_) | (refine MkG.box 3 rfl rfl rfl (by decide) ?_) | (refine MkG.row ?_)); conv => whnf)
      | exact trivial
      | (refine Br.mk (fun hb => ?_) (fun hb => ?_) <;> (first | (exfalso; revert hb; decide) | ((try simp only [BL] at hb) <;> (try simp only [DL] at hb) <;> (first | (exfalso; omega) | (conv => whnf)))))
      | (refine And.intro ?_ ?_; (focus (first | exact id | exact rfl | exact trivial | (intro hg; first | exact hg | exact rfl | (simp; done) | (simp at hg ⊢; assumption)) | omega | decide | exact is2_c _ _ _ | exact is1_c _ _ | exact isS_c _ _ | exact isB_c _ _ | exact Nat.le_refl _ | assumption | exact mulLe (by decide) (by omega) | exact mulLe2 (by decide) (by omega) (by omega) | (intros; simp only [BL] at *; omega) | (intros; (try simp only [BL] at *); (try simp only [DL] at *); omega) | (intros; simp only [BL] at *; rw [wr_id (by omega) (by omega)]; omega) | (intro h1 h2; exact Bool.and_eq_true_iff.2 ⟨h1, h2⟩) | (intros; simp_all; done))); conv => whnf)
      | (refine Or.inr (And.intro rfl ?_); first | (refine congrArg intV ?_) | (refine congrArg boolV ?_) | (refine tupII ?_ ?_) | (refine tupIII ?_ ?_ ?_) | (refine tupU ?_ ?_ ?_ ?_ ?_) | exact rfl))
    · have h4 : isE N dn ho m ds p.n = 3 := by rw [h2, if_pos (by omega)]
      refine ⟨[0, 1], [dkB N dn last, paR p], .tup [intV 0, intV 3], rfl, ?_, rfl, rfl, ?_, Nat.le_refl _, rfl, ?_⟩
      iterate 2 · all_goals repeat' (first | (refine And.intro ?_ ?_) | exact trivial | exact rfl | exact fun h => Bool.noConfusion h | exact fun _ _ _ _ => rfl)
      · rw [h4]
    · have h4 : isE N dn ho m ds p.n = 2 := by rw [h2, if_neg (by omega), if_pos (by omega)]
      refine ⟨[0, 1], [dkB N dn last, paR p], .tup [intV 0, intV 2], rfl, ?_, rfl, rfl, ?_, Nat.le_refl _, rfl, ?_⟩
      iterate 2 · all_goals repeat' (first | (refine And.intro ?_ ?_) | exact trivial | exact rfl | exact fun h => Bool.noConfusion h | exact fun _ _ _ _ => rfl)
      · rw [h4]
    · have h4 : isE N dn ho m ds p.n = 9 := by rw [h2, if_neg (by omega), if_neg (by omega), if_pos (by omega)]
      refine ⟨[0, 1], [dkB N dn last, paR p], .tup [intV 0, intV 9], rfl, ?_, rfl, rfl, ?_, Nat.le_refl _, rfl, ?_⟩
      iterate 2 · all_goals repeat' (first | (refine And.intro ?_ ?_) | exact trivial | exact rfl | exact fun h => Bool.noConfusion h | exact fun _ _ _ _ => rfl)
      · rw [h4]
  · rw [decide_eq_false h3]
    rw [if_neg h3] at h2
    conv => whnf
    repeat' (first
      | (refine NilG.mk fun bn hbn hbx => ?_; conv => whnf)
      | (refine Both.mk ?_ ?_ <;> conv => whnf)
      | ((first | (refine MkG.box 1 rfl rfl rfl (by decide) ?_) | (refine MkG.box 2 rfl rfl rfl (by decide) ?_) | (refine MkG.box 3 rfl rfl rfl (by decide) ?_) | (refine MkG.row ?_)); conv => whnf)
      | exact trivial
      | (refine Br.mk (fun hb => ?_) (fun hb => ?_) <;> (first | (exfalso; revert hb; decide) | ((try simp only [BL] at hb) <;> (try simp only [DL] at hb) <;> (first | (exfalso; omega) | (conv => whnf)))))
      | (refine And.intro ?_ ?_; (focus (first | exact id | exact rfl | exact trivial | (intro hg; first | exact hg | exact rfl | (simp; done) | (simp at hg ⊢; assumption)) | omega | decide | exact is2_c _ _ _ | exact is1_c _ _ | exact isS_c _ _ | exact isB_c _ _ | exact Nat.le_refl _ | assumption | exact mulLe (by decide) (by omega) | exact mulLe2 (by decide) (by omega) (by omega) | (intros; simp only [BL] at *; omega) | (intros; (try simp only [BL] at *); (try simp only [DL] at *); omega) | (intros; simp only [BL] at *; rw [wr_id (by omega) (by omega)]; omega) | (intro h1 h2; exact Bool.and_eq_true_iff.2 ⟨h1, h2⟩) | (intros; simp_all; done))); conv => whnf)
      | (refine Or.inr (And.intro rfl ?_); first | (refine congrArg intV ?_) | (refine congrArg boolV ?_) | (refine tupII ?_ ?_) | (refine tupIII ?_ ?_ ?_) | (refine tupU ?_ ?_ ?_ ?_ ?_) | exact rfl))
    · refine ⟨[0, 1], [dkB N dn last, paR p], .tup [intV 0, intV 8], rfl, ?_, rfl, rfl, ?_, Nat.le_refl _, rfl, ?_⟩
      iterate 2 · all_goals repeat' (first | (refine And.intro ?_ ?_) | exact trivial | exact rfl | exact fun h => Bool.noConfusion h | exact fun _ _ _ _ => rfl)
      · rw [h2]
theorem isE_z {N : Nat} {dn : Nat → ByteArray} {ho : ByteArray} {m : Nat} {ds : Nat → ByteArray} {many : Nat} (h : isE N dn ho m ds many = 0) : nameB ho = true ∧ nmsE m ds = 0 ∧ allB N dn m ds ∧ m ≠ 0 ∧ m ≤ 12 ∧ many ≠ 20 := by
  unfold isE at h
  split at h
  · rename_i h1
    split at h
    · rename_i h2
      split at h
      · rename_i h3
        refine ⟨h1, h2, h3, ?_⟩
        (repeat' split at h) <;> omega
      · cases h
    · rename_i h2; exact absurd h h2
  · cases h
def upN {α : Type} (f : Nat → α) (i : Nat) (x : α) (k : Nat) : α := if k = i then x else f k
def Pap.push (p : Pap) (nu : Int) (ho : ByteArray) (m : Nat) (ds : Nat → ByteArray) : Pap := ⟨p.n + 1, upN p.nu p.n nu, upN p.ho p.n ho, upN p.dl p.n m, upN p.dv p.n ds⟩
theorem cPush_lt {p : Pap} {nu : Int} {ho : ByteArray} {m : Nat} {ds : Nat → ByteArray} {k : Nat} (h : k < p.n) (j : Nat) : cPap (p.push nu ho m ds) k j = cPap p k j := by
  unfold cPap Pap.push upN
  simp only [if_neg (show ¬ k = p.n by omega)]
theorem cPush_eq {p : Pap} {nu : Int} {ho : ByteArray} {m : Nat} {ds : Nat → ByteArray} (j : Nat) : cPap (p.push nu ho m ds) p.n j = [iL nu, sL ho, .sl 1 m (cS ds)].getD j .un := by
  unfold cPap Pap.push upN
  simp only [if_pos trivial]
theorem pm_pushR {p : Pap} {w : Int} {ho : ByteArray} {m : Nat} {ds : Nat → ByteArray} : ∀ a, a < p.n + 1 → ∀ b, b < 3 → (if a < p.n then cPap p a b else ([L.v (.int .i64 w), L.v (.string ho), L.sl 1 m (cS ds)][(a - p.n) * 3 + b]?).getD (L.v undef)) = cPap (p.push w ho m ds) a b := fun a ha b hb => by
  by_cases e : a < p.n
  · exact (if_pos e).trans (cPush_lt e b).symm
  · have e1 : a = p.n := by omega
    refine (if_neg e).trans ?_
    subst e1
    rw [Nat.sub_self, cPush_eq]
    match b, hb with
    | 0, _ => rfl
    | 1, _ => rfl
    | 2, _ => rfl
set_option maxHeartbeats 40000000 in
theorem pmIssK0 (N : Nat) (dn : Nat → ByteArray) (last : Int) (p : Pap) (ho : ByteArray) (m : Nat) (ds : Nat → ByteArray) (hN : N ≤ maxLen) (hho : ho.size ≤ maxLen) (hm : nmOk m ds) (h0 : isE N dn ho m ds p.n = 0) (hl : 0 ≤ last ∧ last ≤ 100) (hp : p.n ≤ 20) : FnM Try.prog 12 [dkB N dn last, paR p] [.lp 0 0, strV ho, .c (.sl 1 m (cS ds))] (fun obs r => obs = [.box [.c (.sl 1 N (cS dn)), .own 2, intV (IntKind.i64.wrap (last + 1))], .dead, paR (p.push (IntKind.i64.wrap (last + 1)) ho m ds)] ∧ r = .tup [intV (IntKind.i64.wrap (last + 1)), intV 0]) := by
  refine fnM_of_wpx (O := pm_ord) tab_ok gamPb_ok mixed Try.func12 (by kernel_rfl) rfl rfl rfl (by simp [Try.ntmps12]) (by rw [Bool.and_eq_true]; exact ⟨by kernel_rfl, codeOkX_ok (sk := fun i => i == 15) _ (by kernel_rfl) pm_mem⟩) ?_
  obtain ⟨z1, z2, z3, z4, z5, z6⟩ := isE_z h0
  conv => whnf
  repeat' (first
    | (refine NilG.mk fun bn hbn hbx => ?_; conv => whnf)
    | (refine Both.mk ?_ ?_ <;> conv => whnf)
    | ((first | (refine MkG.box 1 rfl rfl rfl (by decide) ?_) | (refine MkG.box 2 rfl rfl rfl (by decide) ?_) | (refine MkG.box 3 rfl rfl rfl (by decide) ?_) | (refine MkG.row ?_)); conv => whnf)
    | exact trivial
    | (refine Br.mk (fun hb => ?_) (fun hb => ?_) <;> (first | (exfalso; revert hb; decide) | ((try simp only [BL] at hb) <;> (try simp only [DL] at hb) <;> (first | (exfalso; omega) | (conv => whnf)))))
    | (refine And.intro ?_ ?_; (focus (first | exact id | exact rfl | exact trivial | (intro hg; first | exact hg | exact rfl | (simp; done) | (simp at hg ⊢; assumption)) | omega | decide | exact is2_c _ _ _ | exact is1_c _ _ | exact isS_c _ _ | exact isB_c _ _ | exact Nat.le_refl _ | assumption | exact mulLe (by decide) (by omega) | exact mulLe2 (by decide) (by omega) (by omega) | (intros; simp only [BL] at *; omega) | (intros; (try simp only [BL] at *); (try simp only [DL] at *); omega) | (intros; simp only [BL] at *; rw [wr_id (by omega) (by omega)]; omega) | (intro h1 h2; exact Bool.and_eq_true_iff.2 ⟨h1, h2⟩) | first | exact hho | exact ⟨isS_c _ _, hm⟩ | (intros; simp_all; done))); conv => whnf)
    | (refine Or.inr (And.intro rfl ?_); first | (refine congrArg intV ?_) | (refine congrArg boolV ?_) | (refine tupII ?_ ?_) | (refine tupIII ?_ ?_ ?_) | (refine tupU ?_ ?_ ?_ ?_ ?_) | exact rfl))
  · exact absurd hb (by rw [z1]; decide)
  refine CallG.wr [0, 1, 2] rfl (FnM.mono (pmI3 N dn last p m ds hN hm.1) ?_)
  rintro obs r ⟨rfl, rfl⟩
  rw [decide_eq_true z3]
  conv => whnf
  repeat' (first
    | (refine NilG.mk fun bn hbn hbx => ?_; conv => whnf)
    | (refine Both.mk ?_ ?_ <;> conv => whnf)
    | ((first | (refine MkG.box 1 rfl rfl rfl (by decide) ?_) | (refine MkG.box 2 rfl rfl rfl (by decide) ?_) | (refine MkG.box 3 rfl rfl rfl (by decide) ?_) | (refine MkG.row ?_)); conv => whnf)
    | exact trivial
    | (refine Br.mk (fun hb => ?_) (fun hb => ?_) <;> (first | (exfalso; revert hb; decide) | ((try simp only [BL] at hb) <;> (try simp only [DL] at hb) <;> (first | (exfalso; omega) | (conv => whnf)))))
    | (refine And.intro ?_ ?_; (focus (first | exact id | exact rfl | exact trivial | (intro hg; first | exact hg | exact rfl | (simp; done) | (simp at hg ⊢; assumption)) | omega | decide | exact is2_c _ _ _ | exact is1_c _ _ | exact isS_c _ _ | exact isB_c _ _ | exact Nat.le_refl _ | assumption | exact mulLe (by decide) (by omega) | exact mulLe2 (by decide) (by omega) (by omega) | (intros; simp only [BL] at *; omega) | (intros; (try simp only [BL] at *); (try simp only [DL] at *); omega) | (intros; simp only [BL] at *; rw [wr_id (by omega) (by omega)]; omega) | (intro h1 h2; exact Bool.and_eq_true_iff.2 ⟨h1, h2⟩) | (intros; simp_all; done))); conv => whnf)
    | (refine Or.inr (And.intro rfl ?_); first | (refine congrArg intV ?_) | (refine congrArg boolV ?_) | (refine tupII ?_ ?_) | (refine tupIII ?_ ?_ ?_) | (refine tupU ?_ ?_ ?_ ?_ ?_) | exact rfl))
  all_goals (refine CallG.mk (Fn.mono (pmCl m ds (by omega)) ?_); rintro obs r ⟨rfl, rfl⟩)
  all_goals (((conv => whnf); repeat' (first | (refine NilG.mk fun bn hbn hbx => ?_; conv => whnf) | (refine Both.mk ?_ ?_ <;> conv => whnf) | ((first | (refine MkG.box 1 rfl rfl rfl (by decide) ?_) | (refine MkG.box 2 rfl rfl rfl (by decide) ?_) | (refine MkG.box 3 rfl rfl rfl (by decide) ?_) | (refine MkG.row ?_)); conv => whnf) | exact trivial | (refine Br.mk (fun hb => ?_) (fun hb => ?_) <;> (first | (exfalso; revert hb; decide) | ((try simp only [BL] at hb) <;> (try simp only [DL] at hb) <;> conv => whnf))) | (refine And.intro ?_ ?_; (focus (first | exact id | exact rfl | exact trivial | (intro hg; first | exact hg | exact rfl | (simp; done) | (simp at hg ⊢; assumption)) | omega | decide | exact is2_c _ _ _ | exact is1_c _ _ | exact isS_c _ _ | exact isB_c _ _ | exact Nat.le_refl _ | assumption | exact mulLe (by decide) (by omega) | exact mulLe2 (by decide) (by omega) (by omega) | (intros; simp only [BL] at *; omega) | (intros; (try simp only [BL] at *); (try simp only [DL] at *); omega) | (intros; simp only [BL] at *; rw [wr_id (by omega) (by omega)]; omega) | (intro h1 h2; exact Bool.and_eq_true_iff.2 ⟨h1, h2⟩) | first | exact ⟨by omega, by decide⟩ | (intros; simp_all; done))); conv => whnf) | (refine Or.inr (And.intro rfl ?_); first | (refine congrArg intV ?_) | (refine congrArg boolV ?_) | (refine tupII ?_ ?_) | (refine tupIII ?_ ?_ ?_) | (refine tupU ?_ ?_ ?_ ?_ ?_) | exact rfl))))
  all_goals (refine ⟨[0, 1, 4], [.box [.c (.sl 1 N (cS dn)), .own 2, intV (IntKind.i64.wrap (last + 1))], .dead, paR (p.push (IntKind.i64.wrap (last + 1)) ho m ds)], .tup [intV (IntKind.i64.wrap (last + 1)), intV 0], rfl, ?_, rfl, rfl, ?_, Nat.le_add_right 2 1, rfl, rfl⟩)
  all_goals (repeat' (first | (refine And.intro ?_ ?_) | exact trivial | exact rfl | exact fun h => Bool.noConfusion h | exact pm_pushR))
theorem pmIssK (N : Nat) (dn : Nat → ByteArray) (last : Int) (p : Pap) (ho : ByteArray) (m : Nat) (ds : Nat → ByteArray) (hN : N ≤ maxLen) (hho : ho.size ≤ maxLen) (hm : nmOk m ds) (h0 : isE N dn ho m ds p.n = 0) (hl : 0 ≤ last ∧ last ≤ 100) (hp : p.n ≤ 20) : FnM Try.prog 12 [dkB N dn last, paR p] [.lp 0 0, strV ho, .c (.sl 1 m (cS ds))] (fun obs r => obs = [.box [.c (.sl 1 N (cS dn)), .own 2, intV (last + 1)], .dead, paR (p.push (last + 1) ho m ds)] ∧ r = .tup [intV (last + 1), intV 0]) := by
  have h := pmIssK0 N dn last p ho m ds hN hho hm h0 hl hp
  rw [wr_id (by omega) (by omega)] at h
  exact h
end Go.Proofs.Ytemfikdogdadnaa
