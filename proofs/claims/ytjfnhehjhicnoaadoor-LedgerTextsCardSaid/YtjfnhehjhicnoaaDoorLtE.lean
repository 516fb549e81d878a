/-
  Ledger texts: the errors of entries, by the reference.
-/
import Derived.Test.YtjfnhehjhicnoaaDoorLtD
namespace Go.Proofs.YtjfnhehjhicnoaaDoor
open Go.RowKit

def gamLt : Gam := fun f => match f with
  | 51 => some (s1S (fun a => a.size ≤ maxLen) nameB)
  | 39 => some (s1S (fun a => a.size ≤ maxLen) nameB)
  | 52 => some (s3 inB)
  | _ => none
theorem gamLt_ok : GOk Tryd.prog gamLt := fun f g h => by
  unfold gamLt at h
  split at h
  · injection h with h; subst h; exact s1S_ok named3
  · injection h with h; subst h; exact s1S_ok name1
  · injection h with h; subst h; exact s3_ok in3
  · cases h
theorem ptF_len2 {p : Nat → ByteArray} {z : ByteArray} : ∀ {k : Nat}, (ptF p z k).1.length ≤ k + if (ptF p z k).2 = true then 1 else 0
  | 0 => by simp [ptF]
  | k + 1 => by
    have h := ptF_len2 (p := p) (z := z) (k := k)
    simp only [ptF]
    split
    · rename_i hc
      rw [if_neg (by rw [hc.1]; decide)] at h
      simp only [if_true]
      split <;> simp only [List.length_append, List.length_singleton] <;> omega
    · simp only [List.length_append, List.length_singleton]
      omega
theorem ptL_len {n : Nat} {p : Nat → ByteArray} {z : ByteArray} : (ptL n p z).length ≤ n + 1 := by
  have h := ptF_len2 (p := p) (z := z) (k := n)
  unfold ptL
  split
  · rename_i hc
    rw [if_neg (by rw [hc]; decide)] at h
    simp only [List.length_append, List.length_singleton]
    omega
  · split at h <;> omega
def putB (l : List ByteArray) (z : ByteArray) : List ByteArray := ptL l.length (lS l) z
def nmF (E : Ent) : Nat → List ByteArray
  | 0 => []
  | i + 1 => putB (putB (nmF E i) (E.fr i)) (E.to i)
theorem nmF_len {E : Ent} : ∀ {i : Nat}, (nmF E i).length ≤ 2 * i
  | 0 => Nat.le_refl _
  | i + 1 => by
    have h := nmF_len (E := E) (i := i)
    have h1 : (putB (nmF E i) (E.fr i)).length ≤ (nmF E i).length + 1 := ptL_len
    have h2 : (putB (putB (nmF E i) (E.fr i)) (E.to i)).length ≤ (putB (nmF E i) (E.fr i)).length + 1 := ptL_len
    simp only [nmF]
    omega
def eB (E : Ent) (k : Nat) : Int := if (nameB (E.fr k) && nameB (E.to k)) = false then 6 else if ((E.fr k).toList == (E.to k).toList) = true then 1 else if 1 ≤ E.ct k ∧ E.ct k ≤ 1000000000000 then 0 else 4
def enE (E : Ent) (m : Nat) : Int := if 256 < E.n then 2 else if fst (eB E) E.n ≠ 0 then fst (eB E) E.n else if 64 < m then 9 else 0
def enM (E : Ent) : Prop := ∀ k, k < E.n → (E.fr k).size ≤ maxLen ∧ (E.to k).size ≤ maxLen
theorem enE_at {E : Ent} {m i : Nat} {e : Int} (hn : ¬ 256 < E.n) (hi : i < E.n) (h0 : fst (eB E) i = 0) (he : eB E i = e) (h : e ≠ 0) : enE E m = e := by
  unfold enE
  rw [if_neg hn, fst_at h0 (by rw [he]; exact h) hi, he, if_pos h]
theorem eB_6 {E : Ent} {i : Nat} (h : nameB (E.fr i) = false ∨ nameB (E.to i) = false) : eB E i = 6 := if_pos (by rw [Bool.and_eq_false_iff]; exact h)
theorem eB_ok {E : Ent} {i : Nat} (h : nameB (E.fr i) = true ∧ nameB (E.to i) = true) : eB E i = if ((E.fr i).toList == (E.to i).toList) = true then 1 else if 1 ≤ E.ct i ∧ E.ct i ≤ 1000000000000 then 0 else 4 := if_neg (by rw [h.1, h.2]; decide)
theorem fst_s {e : Nat → Int} {i : Nat} (h : fst e i = 0) (h2 : e i = 0) : fst e (i + 1) = 0 := by simp [fst, h, h2]
def ordEe : Ord := fun id => if id = 13 then some (.go 0 (.go 1 (.go 2 (.go 4 (.fork (.alt 3 (.go 5 (.go 6 (.go 7 ((.done))))) (.alt 5 (.go 3 (.go 6 (.go 7 ((.done))))) (.none)))))))) else none
set_option maxHeartbeats 8000000 in
theorem ltErr (E : Ent) (hn : E.n ≤ maxLen) (hm : enM E) : Fn1 Tryd.prog 26 [eV E] (intV (enE E (nmF E E.n).length)) := by
  refine fn_of_wpx (O := ordEe) tab_ok gamLt_ok mixed Tryd.func26 (by kernel_rfl) rfl rfl rfl (by simp [Tryd.ntmps26]) (by kernel_rfl) ?_
  have hn' : E.n ≤ 9223372036854775807 := hn
  conv => whnf
  repeat' (first
    | (refine NilG.mk fun bn hbn hbx => ?_; conv => whnf)
    | (refine Both.mk ?_ ?_ <;> conv => whnf)
    | ((first | (refine MkG.box 1 rfl rfl rfl (by decide) ?_) | (refine MkG.box 2 rfl rfl rfl (by decide) ?_) | (refine MkG.box 3 rfl rfl rfl (by decide) ?_) | (refine MkG.row ?_)); conv => whnf)
    | (refine LitG.row ?_; conv => whnf)
    | exact trivial
    | (refine Br.mk (fun hb => ?_) (fun hb => ?_) <;> (first | (exfalso; revert hb; decide) | ((try simp only [BL] at hb) <;> (try simp only [DL] at hb) <;> (first | (exfalso; omega) | (conv => whnf)))))
    | (refine And.intro ?_ ?_; (focus (first | exact id | exact rfl | exact trivial | (intro hg; first | exact hg | exact rfl | (simp; done) | (simp at hg ⊢; assumption)) | omega | decide | exact is2_c _ _ _ | exact is1_c _ _ | exact isS_c _ _ | exact isB_c _ _ | exact Nat.le_refl _ | assumption | exact mulLe (by decide) (by omega) | exact mulLe2 (by decide) (by omega) (by omega) | (intros; simp only [BL] at *; omega) | (intros; (try simp only [BL] at *); (try simp only [DL] at *); omega) | (intros; simp only [BL] at *; rw [wr_id (by omega) (by omega)]; omega) | (intro h1 h2; exact Bool.and_eq_true_iff.2 ⟨h1, h2⟩) | (intros; simp_all; done))); conv => whnf)
    | (refine Or.inr (And.intro rfl ?_); first | (refine congrArg intV ?_) | (refine congrArg boolV ?_) | (refine tupII ?_ ?_) | (refine tupIII ?_ ?_ ?_) | (refine tupU ?_ ?_ ?_ ?_ ?_) | exact rfl))
  · exact (if_pos (by omega)).symm
  refine LoopG.nil 3 9 1 rfl ?_
  refine sem_loop tab_ok gamLt_ok mixed (by kernel_rfl) (O := ordEe) (fun i : Nat => ⟨[(3, .own 0), (9, eV E), (10, intV E.n), (11, intV i)], [lsR (nmF E i)]⟩) (fun i => i ≤ E.n ∧ fst (eB E) i = 0) (fun i => E.n - i) ⟨0, [?_], ⟨Nat.zero_le _, rfl⟩, ?_⟩ fun i hi => ?_
  rotate_left 1
  · refine Sub.of ?_ ?_ ?_
    repeat' (first | (refine And.intro ?_ ?_) | exact trivial | exact fun _ _ _ => hsc _ _ | (exact congrArg intV (by first | with_reducible rfl | with_reducible assumption)) | exact (rfl : AV.idsLt _ _ = true) | exact (rfl : _ = AV.ren _ (.own _)) | exact (rfl : _ = AV.ren _ (.fn _ _)) | exact (rfl : _ = AV.ren _ (.gh _)) | (exact congrArg intV (by assumption)) | (refine congrArg intV ((wr_id (by omega) (by omega)).trans (by omega))) | exact rfl | (simp only [NLc]; first | exact rfl | done) | exact all0 | exact fun h => Bool.noConfusion h | exact fun _ _ _ _ => rfl | omega)
  have hl := nmF_len (E := E) (i := i)
  rcases Nat.lt_or_ge i E.n with hlt | hge
  · obtain ⟨h1, h2⟩ := hm i hlt
    have h1' : (E.fr (i : Int).toNat).size ≤ maxLen := h1
    have h2' : (E.to (i : Int).toNat).size ≤ maxLen := h2
    conv => whnf
    repeat' (first
      | (refine NilG.mk fun bn hbn hbx => ?_; conv => whnf)
      | (refine Both.mk ?_ ?_ <;> conv => whnf)
      | ((first | (refine MkG.box 1 rfl rfl rfl (by decide) ?_) | (refine MkG.box 2 rfl rfl rfl (by decide) ?_) | (refine MkG.box 3 rfl rfl rfl (by decide) ?_) | (refine MkG.row ?_)); conv => whnf)
      | (refine LitG.row ?_; conv => whnf)
      | exact trivial
      | (refine Br.mk (fun hb => ?_) (fun hb => ?_) <;> (first | (exfalso; revert hb; decide) | ((try simp only [BL] at hb) <;> (try simp only [DL] at hb) <;> (first | (exfalso; omega) | (conv => whnf)))))
      | (refine And.intro ?_ ?_; (focus (first | exact id | exact rfl | exact trivial | (intro hg; first | exact hg | exact rfl | (simp; done) | (simp at hg ⊢; assumption)) | omega | decide | exact is2_c _ _ _ | exact is1_c _ _ | exact isS_c _ _ | exact isB_c _ _ | exact Nat.le_refl _ | assumption | exact mulLe (by decide) (by omega) | exact mulLe2 (by decide) (by omega) (by omega) | (intros; simp only [BL] at *; omega) | (intros; (try simp only [BL] at *); (try simp only [DL] at *); omega) | (intros; simp only [BL] at *; rw [wr_id (by omega) (by omega)]; omega) | (intro h1 h2; exact Bool.and_eq_true_iff.2 ⟨h1, h2⟩) | exact fun _ => h2' | (intros; simp_all; done))); conv => whnf)
      | (refine Or.inr (And.intro rfl ?_); first | (refine congrArg intV ?_) | (refine congrArg boolV ?_) | (refine tupII ?_ ?_) | (refine tupIII ?_ ?_ ?_) | (refine tupU ?_ ?_ ?_ ?_ ?_) | exact rfl))
    · exact (enE_at (by omega) hlt hi.2 (eB_6 (by assumption)) (by decide)).symm
    · exact (enE_at (by omega) hlt hi.2 ((eB_ok (by assumption)).trans (if_pos (by assumption))) (by decide)).symm
    · rename_i hq
      exact (enE_at (by omega) hlt hi.2 ((eB_ok (by assumption)).trans ((if_neg (by rw [hq]; decide)).trans (if_neg (by omega)))) (by decide)).symm
    all_goals rename_i hq
    all_goals have hz : eB E i = 0 := (eB_ok (by assumption)).trans ((if_neg (by rw [hq]; decide)).trans (if_pos (by omega)))
    all_goals have hz1 : fst (eB E) (i + 1) = 0 := fst_s hi.2 hz
    iterate 2
      focus
        refine CallG.mk (Fn.mono (ltPut _ _ _ (by omega)) ?_)
        rintro obs r ⟨rfl, rfl⟩
        have hpl : (ptL (nmF E i).length (lS (nmF E i)) (E.fr (i : Int).toNat)).length ≤ (nmF E i).length + 1 := ptL_len
        conv => whnf
        repeat' (first
          | (refine NilG.mk fun bn hbn hbx => ?_; conv => whnf)
          | (refine Both.mk ?_ ?_ <;> conv => whnf)
          | ((first | (refine MkG.box 1 rfl rfl rfl (by decide) ?_) | (refine MkG.box 2 rfl rfl rfl (by decide) ?_) | (refine MkG.box 3 rfl rfl rfl (by decide) ?_) | (refine MkG.row ?_)); conv => whnf)
          | (refine LitG.row ?_; conv => whnf)
          | exact trivial
          | (refine Br.mk (fun hb => ?_) (fun hb => ?_) <;> (first | (exfalso; revert hb; decide) | ((try simp only [BL] at hb) <;> (try simp only [DL] at hb) <;> (first | (exfalso; omega) | (conv => whnf)))))
          | (refine And.intro ?_ ?_; (focus (first | exact id | exact rfl | exact trivial | (intro hg; first | exact hg | exact rfl | (simp; done) | (simp at hg ⊢; assumption)) | omega | decide | exact is2_c _ _ _ | exact is1_c _ _ | exact isS_c _ _ | exact isB_c _ _ | exact Nat.le_refl _ | assumption | exact mulLe (by decide) (by omega) | exact mulLe2 (by decide) (by omega) (by omega) | (intros; simp only [BL] at *; omega) | (intros; (try simp only [BL] at *); (try simp only [DL] at *); omega) | (intros; simp only [BL] at *; rw [wr_id (by omega) (by omega)]; omega) | (intro h1 h2; exact Bool.and_eq_true_iff.2 ⟨h1, h2⟩) | (intros; simp_all; done))); conv => whnf)
          | (refine Or.inr (And.intro rfl ?_); first | (refine congrArg intV ?_) | (refine congrArg boolV ?_) | (refine tupII ?_ ?_) | (refine tupIII ?_ ?_ ?_) | (refine tupU ?_ ?_ ?_ ?_ ?_) | exact rfl))
        refine CallG.mk (Fn.mono (ltPut _ _ _ (by omega)) ?_)
        rintro obs r ⟨rfl, rfl⟩
        conv => whnf
        repeat' (first
          | (refine NilG.mk fun bn hbn hbx => ?_; conv => whnf)
          | (refine Both.mk ?_ ?_ <;> conv => whnf)
          | ((first | (refine MkG.box 1 rfl rfl rfl (by decide) ?_) | (refine MkG.box 2 rfl rfl rfl (by decide) ?_) | (refine MkG.box 3 rfl rfl rfl (by decide) ?_) | (refine MkG.row ?_)); conv => whnf)
          | (refine LitG.row ?_; conv => whnf)
          | exact trivial
          | (refine Br.mk (fun hb => ?_) (fun hb => ?_) <;> (first | (exfalso; revert hb; decide) | ((try simp only [BL] at hb) <;> (try simp only [DL] at hb) <;> (first | (exfalso; omega) | (conv => whnf)))))
          | (refine And.intro ?_ ?_; (focus (first | exact id | exact rfl | exact trivial | (intro hg; first | exact hg | exact rfl | (simp; done) | (simp at hg ⊢; assumption)) | omega | decide | exact is2_c _ _ _ | exact is1_c _ _ | exact isS_c _ _ | exact isB_c _ _ | exact Nat.le_refl _ | assumption | exact mulLe (by decide) (by omega) | exact mulLe2 (by decide) (by omega) (by omega) | (intros; simp only [BL] at *; omega) | (intros; (try simp only [BL] at *); (try simp only [DL] at *); omega) | (intros; simp only [BL] at *; rw [wr_id (by omega) (by omega)]; omega) | (intro h1 h2; exact Bool.and_eq_true_iff.2 ⟨h1, h2⟩) | (intros; simp_all; done))); conv => whnf)
          | (refine Or.inr (And.intro rfl ?_); first | (refine congrArg intV ?_) | (refine congrArg boolV ?_) | (refine tupII ?_ ?_) | (refine tupIII ?_ ?_ ?_) | (refine tupU ?_ ?_ ?_ ?_ ?_) | exact rfl))
        refine ⟨i + 1, [?_], ⟨by omega, hz1⟩, by omega, ?_⟩
        rotate_left 1
        refine Sub.of ?_ ?_ ?_
        repeat' (first | (refine And.intro ?_ ?_) | exact trivial | exact fun _ _ _ => hsc _ _ | (exact congrArg intV (by first | with_reducible rfl | with_reducible assumption)) | exact (rfl : AV.idsLt _ _ = true) | exact (rfl : _ = AV.ren _ (.own _)) | exact (rfl : _ = AV.ren _ (.fn _ _)) | exact (rfl : _ = AV.ren _ (.gh _)) | (exact congrArg intV (by assumption)) | (refine congrArg intV ((wr_id (by omega) (by omega)).trans (by omega))) | exact rfl | (simp only [NLc]; first | exact rfl | done) | exact all0 | exact fun h => Bool.noConfusion h | exact fun _ _ _ _ => rfl | omega)
  · obtain rfl : i = E.n := by omega
    have hf : ¬ fst (eB E) E.n ≠ 0 := fun h => h hi.2
    conv => whnf
    repeat' (first
      | (refine NilG.mk fun bn hbn hbx => ?_; conv => whnf)
      | (refine Both.mk ?_ ?_ <;> conv => whnf)
      | ((first | (refine MkG.box 1 rfl rfl rfl (by decide) ?_) | (refine MkG.box 2 rfl rfl rfl (by decide) ?_) | (refine MkG.box 3 rfl rfl rfl (by decide) ?_) | (refine MkG.row ?_)); conv => whnf)
      | (refine LitG.row ?_; conv => whnf)
      | exact trivial
      | (refine Br.mk (fun hb => ?_) (fun hb => ?_) <;> (first | (exfalso; revert hb; decide) | ((try simp only [BL] at hb) <;> (try simp only [DL] at hb) <;> (first | (exfalso; omega) | (conv => whnf)))))
      | (refine And.intro ?_ ?_; (focus (first | exact id | exact rfl | exact trivial | (intro hg; first | exact hg | exact rfl | (simp; done) | (simp at hg ⊢; assumption)) | omega | decide | exact is2_c _ _ _ | exact is1_c _ _ | exact isS_c _ _ | exact isB_c _ _ | exact Nat.le_refl _ | assumption | exact mulLe (by decide) (by omega) | exact mulLe2 (by decide) (by omega) (by omega) | (intros; simp only [BL] at *; omega) | (intros; (try simp only [BL] at *); (try simp only [DL] at *); omega) | (intros; simp only [BL] at *; rw [wr_id (by omega) (by omega)]; omega) | (intro h1 h2; exact Bool.and_eq_true_iff.2 ⟨h1, h2⟩) | (intros; simp_all; done))); conv => whnf)
      | (refine Or.inr (And.intro rfl ?_); first | (refine congrArg intV ?_) | (refine congrArg boolV ?_) | (refine tupII ?_ ?_) | (refine tupIII ?_ ?_ ?_) | (refine tupU ?_ ?_ ?_ ?_ ?_) | exact rfl))
    · exact ((if_neg (by omega)).trans ((if_neg hf).trans (if_pos (by omega)))).symm
    · exact ((if_neg (by omega)).trans ((if_neg hf).trans (if_neg (by omega)))).symm
end Go.Proofs.YtjfnhehjhicnoaaDoor
