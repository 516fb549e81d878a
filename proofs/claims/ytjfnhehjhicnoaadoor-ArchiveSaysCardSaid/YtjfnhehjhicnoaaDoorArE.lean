/-
  Archive: New, Append, All, Digest; Same.
-/
import Derived.Test.YtjfnhehjhicnoaaDoorArD
namespace Go.Proofs.YtjfnhehjhicnoaaDoor
open Go.RowKit

def Ev.add (E : Ev) (t : Int) (k n : ByteArray) (v : Int) : Ev := ⟨E.n + 1, fun j => if j = E.n then t else E.ti j, fun j => if j = E.n then k else E.kd j, fun j => if j = E.n then n else E.nm j, fun j => if j = E.n then v else E.va j⟩
abbrev evR (E : Ev) : OB := .row 30 4 E.n false (cE E)
abbrev arB : OB := .box [.own 1]
theorem cE_ne {E : Ev} {t : Int} {k n : ByteArray} {v : Int} {a : Nat} (h : a ≠ E.n) (b : Nat) : cE (E.add t k n v) a b = cE E a b := by
  show [iL (if a = E.n then t else E.ti a), sL (if a = E.n then k else E.kd a), sL (if a = E.n then n else E.nm a), iL (if a = E.n then v else E.va a)].getD b .un = _
  rw [if_neg h, if_neg h, if_neg h, if_neg h]
  rfl
theorem cE_eq (E : Ev) (t : Int) (k n : ByteArray) (v : Int) (b : Nat) : cE (E.add t k n v) E.n b = [iL t, sL k, sL n, iL v].getD b .un := by
  show [iL (if E.n = E.n then t else E.ti E.n), sL (if E.n = E.n then k else E.kd E.n), sL (if E.n = E.n then n else E.nm E.n), iL (if E.n = E.n then v else E.va E.n)].getD b .un = _
  rw [if_pos rfl, if_pos rfl, if_pos rfl, if_pos rfl]
theorem arNew0 : Fn Tryd.prog 8 [] (fun obs r => obs = [.box [.c (.v (.slice none 0 0))]] ∧ r = .lp 0 0) := by
  refine fn_of_wpx (O := lex) tab_ok (Γ := fun _ => none) (fun _ _ h => by cases h) mixed Tryd.func8 (by kernel_rfl) rfl rfl rfl (by simp [Tryd.ntmps8]) (by kernel_rfl) ?_
  conv => whnf
  repeat' (first
    | (refine NilG.mk fun bn hbn hbx => ?_; conv => whnf)
    | (refine Both.mk ?_ ?_ <;> conv => whnf)
    | ((first | (refine MkG.box 1 rfl rfl rfl (by decide) ?_) | (refine MkG.box 2 rfl rfl rfl (by decide) ?_) | (refine MkG.box 3 rfl rfl rfl (by decide) ?_) | (refine MkG.row ?_)); conv => whnf)
    | (refine LitG.row ?_; conv => whnf)
    | exact trivial
    | (refine Br.mk (fun hb => ?_) (fun hb => ?_) <;> (first | (exfalso; revert hb; decide) | ((try simp only [BL] at hb) <;> (try simp only [DL] at hb) <;> conv => whnf)))
    | (refine And.intro ?_ ?_; (focus (first | exact id | exact rfl | exact trivial | (intro hg; first | exact hg | exact rfl | (simp; done) | (simp at hg ⊢; assumption)) | omega | decide | exact is2_c _ _ _ | exact is1_c _ _ | exact isS_c _ _ | exact isB_c _ _ | exact Nat.le_refl _ | assumption | exact mulLe (by decide) (by omega) | exact mulLe2 (by decide) (by omega) (by omega) | (intros; simp only [BL] at *; omega) | (intros; (try simp only [BL] at *); (try simp only [DL] at *); omega) | (intros; simp only [BL] at *; rw [wr_id (by omega) (by omega)]; omega) | (intro h1 h2; exact Bool.and_eq_true_iff.2 ⟨h1, h2⟩) | (intros; simp_all; done))); conv => whnf)
    | (refine Or.inr (And.intro rfl ?_); first | (refine congrArg intV ?_) | (refine congrArg boolV ?_) | (refine tupII ?_ ?_) | (refine tupIII ?_ ?_ ?_) | (refine tupU ?_ ?_ ?_ ?_ ?_) | exact rfl))
  refine .inl ⟨[0], [.box [.c (.v (.slice none 0 0))]], .lp 0 0, rfl, ?_, rfl, rfl, rfl, rfl⟩
  repeat' (first | (refine And.intro ?_ ?_) | exact trivial | exact rfl)
def evKE (E : Ev) (t : Int) (k n : ByteArray) (v : Int) : Int := if evE t k n v ≠ 0 then evE t k n v else if 0 < E.n ∧ t < E.ti (E.n - 1) then 12 else 0
def sEv (G : Int → ByteArray → ByteArray → Int → AV) : List AV → Sd × AV
  | [.agg [.c (.v (.int .i64 t)), .c (.v (.string k)), .c (.v (.string n)), .c (.v (.int .i64 v))]] => (.p (k.size ≤ maxLen ∧ n.size ≤ maxLen), G t k n v)
  | _ => (.p False, .top)
theorem sEv_ok {f : FuncId} {G} (h : ∀ t k n v, k.size ≤ maxLen → n.size ≤ maxLen → Fn1 Tryd.prog f [evV t k n v] (G t k n v)) : ∀ args, (sEv G args).1.ok → (sEv G args).2.exact.isSome = true → Fn1 Tryd.prog f args (sEv G args).2 := fun args hs _ => by
  unfold sEv at hs ⊢
  split at hs
  · exact h _ _ _ _ hs.1 hs.2
  · exact hs.elim
def gamAp : Gam := fun f => match f with
  | 10 => some (sEv fun t k n v => intV (evE t k n v))
  | _ => none
theorem gamAp_ok : GOk Tryd.prog gamAp := fun f g h => by
  unfold gamAp at h
  split at h
  · injection h with h; subst h; exact sEv_ok arCheck
  · cases h
theorem arApp (E : Ev) (t : Int) (k n : ByteArray) (v : Int) (hk : k.size ≤ maxLen) (hn : n.size ≤ maxLen) (h12 : E.n ≤ 12) : FnM Tryd.prog 12 [arB, evR E] [.lp 0 0, evV t k n v] (fun obs r => (evKE E t k n v ≠ 0 ∧ obs = [arB, evR E] ∧ r = .tup [intV 0, intV (evKE E t k n v)]) ∨ (evKE E t k n v = 0 ∧ obs = [.box [.own 2], .dead, evR (E.add t k n v)] ∧ r = .tup [intV ((E.n + 1 : Nat) : Int), intV 0])) := by
  refine fnM_of_wpx (O := ordAp) tab_ok gamAp_ok mixed Tryd.func12 (by kernel_rfl) rfl rfl rfl (by simp [Tryd.ntmps12]) (by kernel_rfl) ?_
  have hw : 0 < E.n → IntKind.i64.wrap ((E.n : Int) - 1) = ((E.n - 1 : Nat) : Int) := fun h => (wr_id (by omega) (by omega)).trans (by omega)
  conv => whnf
  repeat' (first
    | (refine NilG.mk fun bn hbn hbx => ?_; conv => whnf)
    | (refine Both.mk ?_ ?_ <;> conv => whnf)
    | ((first | (refine MkG.box 1 rfl rfl rfl (by decide) ?_) | (refine MkG.box 2 rfl rfl rfl (by decide) ?_) | (refine MkG.box 3 rfl rfl rfl (by decide) ?_) | (refine MkG.row ?_)); conv => whnf)
    | (refine LitG.row ?_; conv => whnf)
    | exact trivial
    | (refine Br.mk (fun hb => ?_) (fun hb => ?_) <;> (first | (exfalso; revert hb; decide) | ((try simp only [BL] at hb) <;> (try simp only [DL] at hb) <;> conv => whnf)))
    | (refine And.intro ?_ ?_; (focus (first | exact id | exact rfl | exact trivial | (intro hg; first | exact hg | exact rfl | (simp; done) | (simp at hg ⊢; assumption)) | omega | decide | exact is2_c _ _ _ | exact is1_c _ _ | exact isS_c _ _ | exact isB_c _ _ | exact Nat.le_refl _ | assumption | exact mulLe (by decide) (by omega) | exact mulLe2 (by decide) (by omega) (by omega) | (intros; simp only [BL] at *; omega) | (intros; (try simp only [BL] at *); (try simp only [DL] at *); omega) | (intros; simp only [BL] at *; rw [wr_id (by omega) (by omega)]; omega) | (intro h1 h2; exact Bool.and_eq_true_iff.2 ⟨h1, h2⟩) | first | exact ⟨hk, hn⟩ | exact fun hg => ⟨rfl, by simp only [BL] at hg; rw [hw (by omega)]; omega, by decide⟩ | (intros; simp_all; done))); conv => whnf)
    | (refine Or.inr (And.intro rfl ?_); first | (refine congrArg intV ?_) | (refine congrArg boolV ?_) | (refine tupII ?_ ?_) | (refine tupIII ?_ ?_ ?_) | (refine tupU ?_ ?_ ?_ ?_ ?_) | exact rfl))
  · have hK : evKE E t k n v = evE t k n v := if_pos hb
    refine ⟨[0, 1], [arB, evR E], .tup [intV 0, intV (evE t k n v)], rfl, ?_, rfl, rfl, ?_, Nat.le_refl _, .inl ⟨by rw [hK]; exact hb, rfl, by rw [hK]⟩⟩
    all_goals repeat' (first | (refine And.intro ?_ ?_) | exact trivial | exact rfl | exact fun h => Bool.noConfusion h | exact fun _ _ _ _ => rfl)
  · rename_i h1
    have hK : evKE E t k n v = 12 := by
      have hh := hb.2
      rw [hw (by omega)] at hh
      exact (if_neg (fun h => h h1)).trans (if_pos ⟨by omega, hh⟩)
    refine ⟨[0, 1], [arB, evR E], .tup [intV 0, intV 12], rfl, ?_, rfl, rfl, ?_, Nat.le_refl _, .inl ⟨by rw [hK]; decide, rfl, by rw [hK]⟩⟩
    all_goals repeat' (first | (refine And.intro ?_ ?_) | exact trivial | exact rfl | exact fun h => Bool.noConfusion h | exact fun _ _ _ _ => rfl)
  · exfalso; omega
  iterate 2
    · rename_i h1 h2
      have hK : evKE E t k n v = 0 := by
        refine (if_neg (fun h => h h1)).trans (if_neg fun h => ?_)
        rcases h2 with h2 | h2
        · omega
        · rw [hw h.1] at h2
          exact h2 h.2
      have hw2 : IntKind.i64.wrap ((E.n : Int) + 1) = ((E.n + 1 : Nat) : Int) := (wr_id (by omega) (by omega)).trans (by omega)
      refine ⟨[0, 1, 4], [.box [.own 2], .dead, evR (E.add t k n v)], .tup [intV (IntKind.i64.wrap ((E.n : Int) + 1)), intV 0], rfl, ?_, rfl, rfl, ?_, Nat.le_add_right 2 1, .inr ⟨hK, rfl, by rw [hw2]⟩⟩
      all_goals repeat' (first | (refine And.intro ?_ ?_) | exact trivial | exact rfl | exact fun h => Bool.noConfusion h)
      intro a ha b hb9
      have hb9 : b < 4 := hb9
      by_cases e : a < E.n
      · exact (if_pos e).trans (cE_ne (by omega) b).symm
      · have e : a = E.n := by have : a < E.n + 1 := ha; omega
        refine (if_neg (by omega)).trans ?_
        rw [e, Nat.sub_self, cE_eq]
        match b, hb9 with
        | 0, _ => rfl
        | 1, _ => rfl
        | 2, _ => rfl
        | 3, _ => rfl
theorem arClone0 (E : Ev) (hn : E.n ≤ 1000) : Fn Tryd.prog 41 [.c (.sl 4 E.n (cE E))] (fun obs r => obs = [] ∧ (r = .c (.sl 4 E.n (cE E)) ∨ E.n = 0 ∧ r = .c (.v (.slice none 0 0)))) := by
  refine fn_of_wpx (O := lex) tab_ok gamN1_ok mixed Tryd.func41 (by kernel_rfl) rfl rfl rfl (by simp [Tryd.ntmps41]) (by kernel_rfl) ?_
  conv => whnf
  repeat' (first
    | (refine NilG.mk fun bn hbn hbx => ?_; conv => whnf)
    | (refine Both.mk ?_ ?_ <;> conv => whnf)
    | ((first | (refine MkG.box 1 rfl rfl rfl (by decide) ?_) | (refine MkG.box 2 rfl rfl rfl (by decide) ?_) | (refine MkG.box 3 rfl rfl rfl (by decide) ?_) | (refine MkG.row ?_)); conv => whnf)
    | (refine LitG.row ?_; conv => whnf)
    | exact trivial
    | (refine Br.mk (fun hb => ?_) (fun hb => ?_) <;> (first | (exfalso; revert hb; decide) | ((try simp only [BL] at hb) <;> (try simp only [DL] at hb) <;> conv => whnf)))
    | (refine And.intro ?_ ?_; (focus (first | exact id | exact rfl | exact trivial | (intro hg; first | exact hg | exact rfl | (simp; done) | (simp at hg ⊢; assumption)) | omega | decide | exact is2_c _ _ _ | exact is1_c _ _ | exact isS_c _ _ | exact isB_c _ _ | exact Nat.le_refl _ | assumption | exact mulLe (by decide) (by omega) | exact mulLe2 (by decide) (by omega) (by omega) | (intros; simp only [BL] at *; omega) | (intros; (try simp only [BL] at *); (try simp only [DL] at *); omega) | (intros; simp only [BL] at *; rw [wr_id (by omega) (by omega)]; omega) | (intro h1 h2; exact Bool.and_eq_true_iff.2 ⟨h1, h2⟩) | (intros; simp_all; done))); conv => whnf)
    | (refine Or.inr (And.intro rfl ?_); first | (refine congrArg intV ?_) | (refine congrArg boolV ?_) | (refine tupII ?_ ?_) | (refine tupIII ?_ ?_ ?_) | (refine tupU ?_ ?_ ?_ ?_ ?_) | exact rfl))
  · exact .inr ⟨rfl, .inr ⟨hbn (by simpa using hb), rfl⟩⟩
  · refine .inr ⟨rfl, .inl ?_⟩
    show AV.c (.sl 4 (0 + E.n) fun k j => if k < 0 then _ else cE E (k - 0) j) = _
    rw [Nat.zero_add]
    rfl
theorem arClone (E : Ev) (hn : E.n ≤ 1000) : Fn1 Tryd.prog 41 [.c (.sl 4 E.n (cE E))] (.c (.sl 4 E.n (cE E))) :=
  (arClone0 E hn).res fun obs r ⟨h1, h2⟩ => by
    rcases h2 with h2 | ⟨h2, h3⟩
    · exact ⟨_, ⟨h1, rfl⟩, h2 ▸ Le1.refl _⟩
    · subst h3
      rw [h2]
      exact ⟨_, ⟨h1, rfl⟩, Le1.nil⟩
theorem arSame (n : Nat) (E : Ev) (hn : n ≤ 1000) (h : n ≤ E.n) : Fn1 Tryd.prog 13 [.c (.sl 4 n (cE E)), .c (.sl 4 n (cE E))] (boolV true) := by
  refine fn_of_wpx (O := lex) tab_ok gamN1_ok mixed Tryd.func13 (by kernel_rfl) rfl rfl rfl (by simp [Tryd.ntmps13]) (by kernel_rfl) ?_
  conv => whnf
  repeat' (first
    | (refine NilG.mk fun bn hbn hbx => ?_; conv => whnf)
    | (refine Both.mk ?_ ?_ <;> conv => whnf)
    | ((first | (refine MkG.box 1 rfl rfl rfl (by decide) ?_) | (refine MkG.box 2 rfl rfl rfl (by decide) ?_) | (refine MkG.box 3 rfl rfl rfl (by decide) ?_) | (refine MkG.row ?_)); conv => whnf)
    | (refine LitG.row ?_; conv => whnf)
    | exact trivial
    | (refine Br.mk (fun hb => ?_) (fun hb => ?_) <;> (first | (exfalso; revert hb; decide) | ((try simp only [BL] at hb) <;> (try simp only [DL] at hb) <;> conv => whnf)))
    | (refine And.intro ?_ ?_; (focus (first | exact id | exact rfl | exact trivial | (intro hg; first | exact hg | exact rfl | (simp; done) | (simp at hg ⊢; assumption)) | omega | decide | exact is2_c _ _ _ | exact is1_c _ _ | exact isS_c _ _ | exact isB_c _ _ | exact Nat.le_refl _ | assumption | exact mulLe (by decide) (by omega) | exact mulLe2 (by decide) (by omega) (by omega) | (intros; simp only [BL] at *; omega) | (intros; (try simp only [BL] at *); (try simp only [DL] at *); omega) | (intros; simp only [BL] at *; rw [wr_id (by omega) (by omega)]; omega) | (intro h1 h2; exact Bool.and_eq_true_iff.2 ⟨h1, h2⟩) | (intros; simp_all; done))); conv => whnf)
    | (refine Or.inr (And.intro rfl ?_); first | (refine congrArg intV ?_) | (refine congrArg boolV ?_) | (refine tupII ?_ ?_) | (refine tupIII ?_ ?_ ?_) | (refine tupU ?_ ?_ ?_ ?_ ?_) | exact rfl))
  · exact absurd trivial hb
  refine sem_loop tab_ok gamN1_ok mixed (by kernel_rfl) (O := lex) (fun i : Nat => ⟨[(0, .c (.sl 4 n (cE E))), (1, .c (.sl 4 n (cE E))), (12, intV n), (13, intV i)], []⟩) (fun i => i ≤ n) (fun i => n - i) ⟨0, [], Nat.zero_le _, ?_⟩ fun i hi => ?_
  · refine Sub.of ?_ ?_ ?_
    repeat' (first | (refine And.intro ?_ ?_) | exact trivial | exact fun _ _ _ => hsc _ _ | (exact congrArg intV (by first | with_reducible rfl | with_reducible assumption)) | exact (rfl : AV.idsLt _ _ = true) | exact (rfl : _ = AV.ren _ (.own _)) | exact (rfl : _ = AV.ren _ (.fn _ _)) | exact (rfl : _ = AV.ren _ (.gh _)) | (exact congrArg intV (by assumption)) | (refine congrArg intV ((wr_id (by omega) (by omega)).trans (by omega))) | exact rfl | (simp only [NLc]; first | exact rfl | done) | exact all0 | exact fun h => Bool.noConfusion h | exact fun _ _ _ _ => rfl | omega)
  conv => whnf
  repeat' (first
    | (refine NilG.mk fun bn hbn hbx => ?_; conv => whnf)
    | (refine Both.mk ?_ ?_ <;> conv => whnf)
    | ((first | (refine MkG.box 1 rfl rfl rfl (by decide) ?_) | (refine MkG.box 2 rfl rfl rfl (by decide) ?_) | (refine MkG.box 3 rfl rfl rfl (by decide) ?_) | (refine MkG.row ?_)); conv => whnf)
    | (refine LitG.row ?_; conv => whnf)
    | exact trivial
    | (refine Br.mk (fun hb => ?_) (fun hb => ?_) <;> (first | (exfalso; revert hb; decide) | ((try simp only [BL] at hb) <;> (try simp only [DL] at hb) <;> conv => whnf)))
    | (refine And.intro ?_ ?_; (focus (first | exact id | exact rfl | exact trivial | (intro hg; first | exact hg | exact rfl | (simp; done) | (simp at hg ⊢; assumption)) | omega | decide | exact is2_c _ _ _ | exact is1_c _ _ | exact isS_c _ _ | exact isB_c _ _ | exact Nat.le_refl _ | assumption | exact mulLe (by decide) (by omega) | exact mulLe2 (by decide) (by omega) (by omega) | (intros; simp only [BL] at *; omega) | (intros; (try simp only [BL] at *); (try simp only [DL] at *); omega) | (intros; simp only [BL] at *; rw [wr_id (by omega) (by omega)]; omega) | (intro h1 h2; exact Bool.and_eq_true_iff.2 ⟨h1, h2⟩) | (intros; simp_all; done))); conv => whnf)
    | (refine Or.inr (And.intro rfl ?_); first | (refine congrArg intV ?_) | (refine congrArg boolV ?_) | (refine tupII ?_ ?_) | (refine tupIII ?_ ?_ ?_) | (refine tupU ?_ ?_ ?_ ?_ ?_) | exact rfl))
  · exfalso
    rcases hb with h | h | h | h | h
    · exact h trivial
    · simp at h
    · simp at h
    · exact h trivial
    · cases h
  · refine ⟨i + 1, [], by omega, by omega, ?_⟩
    refine Sub.of ?_ ?_ ?_
    repeat' (first | (refine And.intro ?_ ?_) | exact trivial | exact fun _ _ _ => hsc _ _ | (exact congrArg intV (by first | with_reducible rfl | with_reducible assumption)) | exact (rfl : AV.idsLt _ _ = true) | exact (rfl : _ = AV.ren _ (.own _)) | exact (rfl : _ = AV.ren _ (.fn _ _)) | exact (rfl : _ = AV.ren _ (.gh _)) | (exact congrArg intV (by assumption)) | (refine congrArg intV ((wr_id (by omega) (by omega)).trans (by omega))) | exact rfl | (simp only [NLc]; first | exact rfl | done) | exact all0 | exact fun h => Bool.noConfusion h | exact fun _ _ _ _ => rfl | omega)
  · rfl
abbrev arX (E : Ev) : AV := .xp 1 fun j => [L.sl 4 E.n (cE E)].getD j .un
theorem arAll (E : Ev) (hn : E.n ≤ 12) : Fn1 Tryd.prog 14 [arX E] (.c (.sl 4 E.n (cE E))) := by
  refine fn_of_wpx (O := lex) tab_ok gamN1_ok mixed Tryd.func14 (by kernel_rfl) rfl rfl rfl (by simp [Tryd.ntmps14]) (by kernel_rfl) ?_
  conv => whnf
  repeat' (first
    | (refine NilG.mk fun bn hbn hbx => ?_; conv => whnf)
    | (refine Both.mk ?_ ?_ <;> conv => whnf)
    | ((first | (refine MkG.box 1 rfl rfl rfl (by decide) ?_) | (refine MkG.box 2 rfl rfl rfl (by decide) ?_) | (refine MkG.box 3 rfl rfl rfl (by decide) ?_) | (refine MkG.row ?_)); conv => whnf)
    | (refine LitG.row ?_; conv => whnf)
    | exact trivial
    | (refine Br.mk (fun hb => ?_) (fun hb => ?_) <;> (first | (exfalso; revert hb; decide) | ((try simp only [BL] at hb) <;> (try simp only [DL] at hb) <;> conv => whnf)))
    | (refine And.intro ?_ ?_; (focus (first | exact id | exact rfl | exact trivial | (intro hg; first | exact hg | exact rfl | (simp; done) | (simp at hg ⊢; assumption)) | omega | decide | exact is2_c _ _ _ | exact is1_c _ _ | exact isS_c _ _ | exact isB_c _ _ | exact Nat.le_refl _ | assumption | exact mulLe (by decide) (by omega) | exact mulLe2 (by decide) (by omega) (by omega) | (intros; simp only [BL] at *; omega) | (intros; (try simp only [BL] at *); (try simp only [DL] at *); omega) | (intros; simp only [BL] at *; rw [wr_id (by omega) (by omega)]; omega) | (intro h1 h2; exact Bool.and_eq_true_iff.2 ⟨h1, h2⟩) | (intros; simp_all; done))); conv => whnf)
    | (refine Or.inr (And.intro rfl ?_); first | (refine congrArg intV ?_) | (refine congrArg boolV ?_) | (refine tupII ?_ ?_) | (refine tupIII ?_ ?_ ?_) | (refine tupU ?_ ?_ ?_ ?_ ?_) | exact rfl))
  refine CallG.mk (Fn.mono (arClone E (by omega)) ?_)
  rintro obs r ⟨rfl, rfl⟩
  conv => whnf
  repeat' (first
    | (refine NilG.mk fun bn hbn hbx => ?_; conv => whnf)
    | (refine Both.mk ?_ ?_ <;> conv => whnf)
    | ((first | (refine MkG.box 1 rfl rfl rfl (by decide) ?_) | (refine MkG.box 2 rfl rfl rfl (by decide) ?_) | (refine MkG.box 3 rfl rfl rfl (by decide) ?_) | (refine MkG.row ?_)); conv => whnf)
    | (refine LitG.row ?_; conv => whnf)
    | exact trivial
    | (refine Br.mk (fun hb => ?_) (fun hb => ?_) <;> (first | (exfalso; revert hb; decide) | ((try simp only [BL] at hb) <;> (try simp only [DL] at hb) <;> conv => whnf)))
    | (refine And.intro ?_ ?_; (focus (first | exact id | exact rfl | exact trivial | (intro hg; first | exact hg | exact rfl | (simp; done) | (simp at hg ⊢; assumption)) | omega | decide | exact is2_c _ _ _ | exact is1_c _ _ | exact isS_c _ _ | exact isB_c _ _ | exact Nat.le_refl _ | assumption | exact mulLe (by decide) (by omega) | exact mulLe2 (by decide) (by omega) (by omega) | (intros; simp only [BL] at *; omega) | (intros; (try simp only [BL] at *); (try simp only [DL] at *); omega) | (intros; simp only [BL] at *; rw [wr_id (by omega) (by omega)]; omega) | (intro h1 h2; exact Bool.and_eq_true_iff.2 ⟨h1, h2⟩) | (intros; simp_all; done))); conv => whnf)
    | (refine Or.inr (And.intro rfl ?_); first | (refine congrArg intV ?_) | (refine congrArg boolV ?_) | (refine tupII ?_ ?_) | (refine tupIII ?_ ?_ ?_) | (refine tupU ?_ ?_ ?_ ?_ ?_) | exact rfl))
theorem arDgM (E : Ev) (hE : gE E) (hn : E.n ≤ 12) : FnT Tryd.prog pwG pwC 9 [arX E] (fun obs r => obs = [] ∧ r = u64V (dgE E E.n)) := by
  refine fnT_of_wpx (O := lex) tab_ok gamN1_ok mixed Tryd.func9 (by kernel_rfl) rfl rfl rfl (by simp [Tryd.ntmps9]) (by kernel_rfl) ?_
  conv => whnf
  repeat' (first
    | (refine NilG.mk fun bn hbn hbx => ?_; conv => whnf)
    | (refine Both.mk ?_ ?_ <;> conv => whnf)
    | ((first | (refine MkG.box 1 rfl rfl rfl (by decide) ?_) | (refine MkG.box 2 rfl rfl rfl (by decide) ?_) | (refine MkG.box 3 rfl rfl rfl (by decide) ?_) | (refine MkG.row ?_)); conv => whnf)
    | (refine LitG.row ?_; conv => whnf)
    | exact trivial
    | (refine Br.mk (fun hb => ?_) (fun hb => ?_) <;> (first | (exfalso; revert hb; decide) | ((try simp only [BL] at hb) <;> (try simp only [DL] at hb) <;> (first | (exfalso; omega) | (conv => whnf)))))
    | (refine And.intro ?_ ?_; (focus (first | exact id | exact rfl | exact trivial | (intro hg; first | exact hg | exact rfl | (simp; done) | (simp at hg ⊢; assumption)) | omega | decide | exact is2_c _ _ _ | exact is1_c _ _ | exact isS_c _ _ | exact isB_c _ _ | exact Nat.le_refl _ | assumption | exact mulLe (by decide) (by omega) | exact mulLe2 (by decide) (by omega) (by omega) | (intros; simp only [BL] at *; omega) | (intros; (try simp only [BL] at *); (try simp only [DL] at *); omega) | (intros; simp only [BL] at *; rw [wr_id (by omega) (by omega)]; omega) | (intro h1 h2; exact Bool.and_eq_true_iff.2 ⟨h1, h2⟩) | (intros; simp_all; done))); conv => whnf)
    | (refine Or.inr (And.intro rfl ?_); first | (refine congrArg intV ?_) | (refine congrArg boolV ?_) | (refine tupII ?_ ?_) | (refine tupIII ?_ ?_ ?_) | (refine tupU ?_ ?_ ?_ ?_ ?_) | exact rfl))
  refine sem_loop tab_ok gamN1_ok mixed (by kernel_rfl) (O := lex) (fun i : Nat => ⟨[(3, u64V (dgE E i)), (9, .c (.sl 4 E.n (cE E))), (10, intV E.n), (11, intV i), (1000000, .gt pwG pwC)], []⟩) (fun i => i ≤ E.n) (fun i => E.n - i) ⟨0, [], Nat.zero_le _, ?_⟩ fun i hi => ?_
  · refine Sub.of ?_ ?_ ?_
    repeat' (first | (refine And.intro ?_ ?_) | exact trivial | exact fun _ _ _ => hsc _ _ | (exact congrArg intV (by first | with_reducible rfl | with_reducible assumption)) | exact (rfl : AV.idsLt _ _ = true) | exact (rfl : _ = AV.ren _ (.own _)) | exact (rfl : _ = AV.ren _ (.fn _ _)) | exact (rfl : _ = AV.ren _ (.gh _)) | (exact congrArg intV (by assumption)) | (refine congrArg intV ((wr_id (by omega) (by omega)).trans (by omega))) | exact rfl | (simp only [NLc]; first | exact rfl | done) | exact all0 | exact fun h => Bool.noConfusion h | exact fun _ _ _ _ => rfl | omega)
  conv => whnf
  repeat' (first
    | (refine NilG.mk fun bn hbn hbx => ?_; conv => whnf)
    | (refine Both.mk ?_ ?_ <;> conv => whnf)
    | ((first | (refine MkG.box 1 rfl rfl rfl (by decide) ?_) | (refine MkG.box 2 rfl rfl rfl (by decide) ?_) | (refine MkG.box 3 rfl rfl rfl (by decide) ?_) | (refine MkG.row ?_)); conv => whnf)
    | (refine LitG.row ?_; conv => whnf)
    | exact trivial
    | (refine Br.mk (fun hb => ?_) (fun hb => ?_) <;> (first | (exfalso; revert hb; decide) | ((try simp only [BL] at hb) <;> (try simp only [DL] at hb) <;> (first | (exfalso; omega) | (conv => whnf)))))
    | (refine And.intro ?_ ?_; (focus (first | exact id | exact rfl | exact trivial | (intro hg; first | exact hg | exact rfl | (simp; done) | (simp at hg ⊢; assumption)) | omega | decide | exact is2_c _ _ _ | exact is1_c _ _ | exact isS_c _ _ | exact isB_c _ _ | exact Nat.le_refl _ | assumption | exact mulLe (by decide) (by omega) | exact mulLe2 (by decide) (by omega) (by omega) | (intros; simp only [BL] at *; omega) | (intros; (try simp only [BL] at *); (try simp only [DL] at *); omega) | (intros; simp only [BL] at *; rw [wr_id (by omega) (by omega)]; omega) | (intro h1 h2; exact Bool.and_eq_true_iff.2 ⟨h1, h2⟩) | (intros; simp_all; done))); conv => whnf)
    | (refine Or.inr (And.intro rfl ?_); first | (refine congrArg intV ?_) | (refine congrArg boolV ?_) | (refine tupII ?_ ?_) | (refine tupIII ?_ ?_ ?_) | (refine tupU ?_ ?_ ?_ ?_ ?_) | exact rfl))
  · have him : i < E.n := by omega
    obtain ⟨h1, h2, h3, h4, h5, h6⟩ := gE_ok hE him
    have hsz := lnE_size hE him
    refine CallG.tb 1000000 rfl (FnT.mono (arLine (E.ti i) (E.kd i) (E.nm i) (E.va i) (by omega) (by omega) h5 h6) ?_)
    rintro obs r ⟨rfl, rfl⟩
    conv => whnf
    repeat' (first
      | (refine NilG.mk fun bn hbn hbx => ?_; conv => whnf)
      | (refine Both.mk ?_ ?_ <;> conv => whnf)
      | ((first | (refine MkG.box 1 rfl rfl rfl (by decide) ?_) | (refine MkG.box 2 rfl rfl rfl (by decide) ?_) | (refine MkG.box 3 rfl rfl rfl (by decide) ?_) | (refine MkG.row ?_)); conv => whnf)
      | (refine LitG.row ?_; conv => whnf)
      | exact trivial
      | (refine Br.mk (fun hb => ?_) (fun hb => ?_) <;> (first | (exfalso; revert hb; decide) | ((try simp only [BL] at hb) <;> (try simp only [DL] at hb) <;> (first | (exfalso; omega) | (conv => whnf)))))
      | (refine And.intro ?_ ?_; (focus (first | exact id | exact rfl | exact trivial | (intro hg; first | exact hg | exact rfl | (simp; done) | (simp at hg ⊢; assumption)) | omega | decide | exact is2_c _ _ _ | exact is1_c _ _ | exact isS_c _ _ | exact isB_c _ _ | exact Nat.le_refl _ | assumption | exact mulLe (by decide) (by omega) | exact mulLe2 (by decide) (by omega) (by omega) | (intros; simp only [BL] at *; omega) | (intros; (try simp only [BL] at *); (try simp only [DL] at *); omega) | (intros; simp only [BL] at *; rw [wr_id (by omega) (by omega)]; omega) | (intro h1 h2; exact Bool.and_eq_true_iff.2 ⟨h1, h2⟩) | (intros; simp_all; done))); conv => whnf)
      | (refine Or.inr (And.intro rfl ?_); first | (refine congrArg intV ?_) | (refine congrArg boolV ?_) | (refine tupII ?_ ?_) | (refine tupIII ?_ ?_ ?_) | (refine tupU ?_ ?_ ?_ ?_ ?_) | exact rfl))
    refine CallG.mk (Fn.mono (arDg (dgE E i) (lnE E i) (by omega)) ?_)
    rintro obs r ⟨rfl, rfl⟩
    conv => whnf
    repeat' (first
      | (refine NilG.mk fun bn hbn hbx => ?_; conv => whnf)
      | (refine Both.mk ?_ ?_ <;> conv => whnf)
      | ((first | (refine MkG.box 1 rfl rfl rfl (by decide) ?_) | (refine MkG.box 2 rfl rfl rfl (by decide) ?_) | (refine MkG.box 3 rfl rfl rfl (by decide) ?_) | (refine MkG.row ?_)); conv => whnf)
      | (refine LitG.row ?_; conv => whnf)
      | exact trivial
      | (refine Br.mk (fun hb => ?_) (fun hb => ?_) <;> (first | (exfalso; revert hb; decide) | ((try simp only [BL] at hb) <;> (try simp only [DL] at hb) <;> (first | (exfalso; omega) | (conv => whnf)))))
      | (refine And.intro ?_ ?_; (focus (first | exact id | exact rfl | exact trivial | (intro hg; first | exact hg | exact rfl | (simp; done) | (simp at hg ⊢; assumption)) | omega | decide | exact is2_c _ _ _ | exact is1_c _ _ | exact isS_c _ _ | exact isB_c _ _ | exact Nat.le_refl _ | assumption | exact mulLe (by decide) (by omega) | exact mulLe2 (by decide) (by omega) (by omega) | (intros; simp only [BL] at *; omega) | (intros; (try simp only [BL] at *); (try simp only [DL] at *); omega) | (intros; simp only [BL] at *; rw [wr_id (by omega) (by omega)]; omega) | (intro h1 h2; exact Bool.and_eq_true_iff.2 ⟨h1, h2⟩) | (intros; simp_all; done))); conv => whnf)
      | (refine Or.inr (And.intro rfl ?_); first | (refine congrArg intV ?_) | (refine congrArg boolV ?_) | (refine tupII ?_ ?_) | (refine tupIII ?_ ?_ ?_) | (refine tupU ?_ ?_ ?_ ?_ ?_) | exact rfl))
    refine ⟨i + 1, [], by omega, by omega, ?_⟩
    refine Sub.of ?_ ?_ ?_
    repeat' (first | (exact (rfl : u64V (fvD (dgE E i) (nlB (lnE E i))) = u64V (dgE E (i + 1)))) | (refine And.intro ?_ ?_) | exact trivial | exact fun _ _ _ => hsc _ _ | (exact congrArg intV (by first | with_reducible rfl | with_reducible assumption)) | exact (rfl : AV.idsLt _ _ = true) | exact (rfl : _ = AV.ren _ (.own _)) | exact (rfl : _ = AV.ren _ (.fn _ _)) | exact (rfl : _ = AV.ren _ (.gh _)) | (exact congrArg intV (by assumption)) | (refine congrArg intV ((wr_id (by omega) (by omega)).trans (by omega))) | exact rfl | (simp only [NLc]; first | exact rfl | done) | exact all0 | exact fun h => Bool.noConfusion h | exact fun _ _ _ _ => rfl | omega)
  · obtain rfl : i = E.n := by omega
    exact .inr ⟨rfl, rfl⟩
end Go.Proofs.YtjfnhehjhicnoaaDoor
