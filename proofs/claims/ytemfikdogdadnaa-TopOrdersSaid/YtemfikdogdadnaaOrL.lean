/-
  OrderPlans: what the law calls.
-/
import Derived.Test.YtemfikdogdadnaaOrF
namespace Go.Proofs.Ytemfikdogdadnaa
open Go.RowKit

theorem orPlanE (r : Rls) (s t : Sts) (hN : Nat) (H : Nat → ByteArray) (hr : r.ok) (hs : s.ok) (ht : t.ok) (hh : hN ≤ maxLen) (h0 : chE r s t hN ≠ 0) : Fn1 Try.prog 16 [rlV r, stV s, stV t, .c (.sl 1 hN (cS H))] (.tup [.c (.v (.slice none 0 0)), intV (chE r s t hN)]) := by
  refine fn_of_wpx (O := lex) tab_ok (Γ := fun _ => none) (fun _ _ h => by cases h) mixed Try.func16 (by kernel_rfl) rfl rfl rfl (by simp [Try.ntmps16]) (by kernel_rfl) ?_
  conv => whnf
  repeat' (first
    | (refine NilG.mk fun bn hbn hbx => ?_; conv => whnf)
    | (refine Both.mk ?_ ?_ <;> conv => whnf)
    | ((first | (refine MkG.box 1 rfl rfl rfl (by decide) ?_) | (refine MkG.box 2 rfl rfl rfl (by decide) ?_) | (refine MkG.box 3 rfl rfl rfl (by decide) ?_) | (refine MkG.row ?_)); conv => whnf)
    | exact trivial
    | (refine Br.mk (fun hb => ?_) (fun hb => ?_) <;> (first | (exfalso; revert hb; decide) | ((try simp only [BL] at hb) <;> (try simp only [DL] at hb) <;> (first | (exfalso; omega) | (conv => whnf)))))
    | (refine And.intro ?_ ?_; (focus (first | exact id | exact rfl | exact trivial | (intro hg; first | exact hg | exact rfl | (simp; done) | (simp at hg ⊢; assumption)) | omega | decide | exact is2_c _ _ _ | exact is1_c _ _ | exact isS_c _ _ | exact isB_c _ _ | exact Nat.le_refl _ | assumption | exact mulLe (by decide) (by omega) | exact mulLe2 (by decide) (by omega) (by omega) | (intros; simp only [BL] at *; omega) | (intros; (try simp only [BL] at *); (try simp only [DL] at *); omega) | (intros; simp only [BL] at *; rw [wr_id (by omega) (by omega)]; omega) | (intro h1 h2; exact Bool.and_eq_true_iff.2 ⟨h1, h2⟩) | (intros; simp_all; done))); conv => whnf)
    | (refine Or.inr (And.intro rfl ?_); first | (refine congrArg intV ?_) | (refine congrArg boolV ?_) | (refine tupII ?_ ?_) | (refine tupIII ?_ ?_ ?_) | (refine tupU ?_ ?_ ?_ ?_ ?_) | exact rfl))
  refine CallG.mk (Fn.mono (orChk r s t hN H hr hs ht hh) ?_)
  rintro obs r' ⟨rfl, rfl⟩
  conv => whnf
  repeat' (first
    | (refine NilG.mk fun bn hbn hbx => ?_; conv => whnf)
    | (refine Both.mk ?_ ?_ <;> conv => whnf)
    | ((first | (refine MkG.box 1 rfl rfl rfl (by decide) ?_) | (refine MkG.box 2 rfl rfl rfl (by decide) ?_) | (refine MkG.box 3 rfl rfl rfl (by decide) ?_) | (refine MkG.row ?_)); conv => whnf)
    | exact trivial
    | (refine Br.mk (fun hb => ?_) (fun hb => ?_) <;> (first | (exfalso; revert hb; decide) | ((try simp only [BL] at hb) <;> (try simp only [DL] at hb) <;> (first | (exfalso; omega) | (conv => whnf)))))
    | (refine And.intro ?_ ?_; (focus (first | exact id | exact rfl | exact trivial | (intro hg; first | exact hg | exact rfl | (simp; done) | (simp at hg ⊢; assumption)) | omega | decide | exact is2_c _ _ _ | exact is1_c _ _ | exact isS_c _ _ | exact isB_c _ _ | exact Nat.le_refl _ | assumption | exact mulLe (by decide) (by omega) | exact mulLe2 (by decide) (by omega) (by omega) | (intros; simp only [BL] at *; omega) | (intros; (try simp only [BL] at *); (try simp only [DL] at *); omega) | (intros; simp only [BL] at *; rw [wr_id (by omega) (by omega)]; omega) | (intro h1 h2; exact Bool.and_eq_true_iff.2 ⟨h1, h2⟩) | (intros; simp_all; done))); conv => whnf)
    | (refine Or.inr (And.intro rfl ?_); first | (refine congrArg intV ?_) | (refine congrArg boolV ?_) | (refine tupII ?_ ?_) | (refine tupIII ?_ ?_ ?_) | (refine tupU ?_ ?_ ?_ ?_ ?_) | exact rfl))
theorem stV_as {s t : Sts} (h1 : t.n = s.n) (h2 : ∀ k, k < s.n → t.nm k = s.nm k) : Le1 (stV t) (stV (stC s.n s.nm (codN t.cl s.n))) := by
  have : Le1 (.c (.sl 2 s.n (cSt t))) (stV (stC s.n s.nm (codN t.cl s.n))) := Le1.sl fun k hk j hj => match j, hj with
    | 0, _ => congrArg sL (h2 k hk)
    | 1, _ => congrArg bL (testBit_codN t.cl s.n k hk).symm
  rw [← h1] at this ⊢
  exact this
theorem alB_iff {s t : Sts} : alB s t = true ↔ s.n = t.n ∧ ∀ k, k < s.n → s.nm k = t.nm k := by
  unfold alB
  rw [Bool.and_eq_true, decide_eq_true_eq, all_range]
  exact ⟨fun ⟨h1, h2⟩ => ⟨h1, fun k hk => b_eq.1 (h2 k hk)⟩, fun ⟨h1, h2⟩ => ⟨h1, fun k hk => b_eq.2 (h2 k hk)⟩⟩
abbrev orXs (r : Rls) (s : Sts) (hN : Nat) (H : Nat → ByteArray) : OrX := ⟨r, s.n, s.nm, hN, H⟩
theorem orXs_ok {r : Rls} {s : Sts} {hN : Nat} {H : Nat → ByteArray} (hr : r.ok) (hs : s.ok) (hh : hN ≤ maxLen) (h8 : s.n ≤ 8) (h0 : rlsE r = 0) (h1 : stsE s = 0) : (orXs r s hN H).ok := ⟨hr, hs, hh, h8, h0, h1⟩
abbrev plnS (r : Rls) (s t : Sts) (hN : Nat) (H : Nat → ByteArray) : Option (List Nat) := plnR (orXs r s hN H).e s.n (codN t.cl s.n) (codN s.cl s.n) 0 8
theorem orPlanA (r : Rls) (s t : Sts) (hN : Nat) (H : Nat → ByteArray) (hr : r.ok) (hs : s.ok) (ht : t.ok) (hh : hN ≤ 3) (h3 : s.n ≤ 3) (h0 : rlsE r = 0) (h1 : stsE s = 0) (h2 : stsE t = 0) : Fn Try.prog 16 [rlV r, stV s, stV t, .c (.sl 1 hN (cS H))] (fun obs v => obs = [] ∧ ∃ gl E, v = .tup [.c (.sl 2 gl.length (cOs s.nm gl)), intV E] ∧ (alB s t = false → E = 3 ∧ gl = []) ∧ (alB s t = true → (plnS r s t hN H = none → E = 8 ∧ gl = []) ∧ ∀ l, plnS r s t hN H = some l → E = 0 ∧ gl = stp (codN s.cl s.n) l)) := by
  have hhm : hN ≤ maxLen := by unfold maxLen; omega
  have hE : chE r s t hN = if alB s t = true then 0 else 3 := by
    unfold chE
    rw [if_pos h0, if_pos h1, if_pos h2, if_neg (by omega)]
  cases ha : alB s t with
  | false =>
    rw [ha] at hE
    have hE : chE r s t hN = 3 := hE
    refine Fn.res (orPlanE r s t hN H hr hs ht hhm (by rw [hE]; decide)) ?_
    rintro obs r' ⟨rfl, rfl⟩
    rw [hE]
    exact ⟨_, ⟨rfl, [], 3, rfl, fun _ => ⟨rfl, rfl⟩, fun h => by cases h⟩, Le1.tup (Le.cons Le1.nil (Le.cons (Le1.refl _) Le.nil))⟩
  | true =>
    obtain ⟨a1, a2⟩ := alB_iff.1 ha
    have hX := orXs_ok (H := H) hr hs hhm (by omega) h0 h1
    have hc0 := codN_lt s.cl s.n
    have hct := codN_lt t.cl s.n
    refine Fn.res ((orPlan (orXs r s hN H) (codN s.cl s.n) (codN t.cl s.n) hX (by show hN ≤ 256; omega) hc0 hct).le (Le.cons (Le1.refl _) (Le.cons (stC_le s) (Le.cons (stV_as a1.symm fun k hk => (a2 k hk).symm) (Le.cons (Le1.refl _) Le.nil))))) ?_
    rintro obs r' ⟨rfl, b, P, W, h⟩
    obtain ⟨w1, w2⟩ := W.same h3 hc0 hct
    rcases h with ⟨hb, rfl⟩ | ⟨hb, rfl⟩
    · refine ⟨_, ⟨rfl, [], 8, rfl, (fun h => by cases h), fun _ => ⟨fun _ => ⟨rfl, rfl⟩, fun l hl => ?_⟩⟩, Le1.tup (Le.cons Le1.nil (Le.cons (Le1.refl _) Le.nil))⟩
      rw [show plnS r s t hN H = none from w1 hb] at hl
      cases hl
    · refine ⟨_, ⟨rfl, stp (codN s.cl s.n) (P (codN t.cl s.n)), 0, rfl, (fun h => by cases h), fun _ => ⟨fun h => ?_, fun l hl => ?_⟩⟩, Le1.refl _⟩
      · rw [show plnS r s t hN H = some _ from w2 hb] at h
        cases h
      · rw [show plnS r s t hN H = some _ from w2 hb] at hl
        injection hl with hl
        exact ⟨rfl, by rw [hl]⟩
theorem orPlnA (r : Rls) (s t : Sts) (hN : Nat) (H : Nat → ByteArray) (hr : r.ok) (hs : s.ok) (hh : hN ≤ 3) (h3 : s.n ≤ 3) (h0 : rlsE r = 0) (h1 : stsE s = 0) (ha : alB s t = true) : Fn Try.prog 27 [rlV r, stV s, stV t, .c (.sl 1 hN (cS H)), intV 7] (fun obs v => obs = [] ∧ ∃ gl b, v = .tup [.c (.sl 2 gl.length (cOs s.nm gl)), boolV b] ∧ ((plnS r s t hN H = none ∧ gl = [] ∧ b = false) ∨ ∃ l, plnS r s t hN H = some l ∧ gl = stp (codN s.cl s.n) l ∧ b = true)) := by
  have hhm : hN ≤ maxLen := by unfold maxLen; omega
  obtain ⟨a1, a2⟩ := alB_iff.1 ha
  have hX := orXs_ok (H := H) hr hs hhm (by omega) h0 h1
  refine Fn.res ((orPlnR (orXs r s hN H) (codN s.cl s.n) (codN t.cl s.n) hX (codN_lt s.cl s.n) (codN_lt t.cl s.n)).le (Le.cons (Le1.refl _) (Le.cons (stC_le s) (Le.cons (stV_as a1.symm fun k hk => (a2 k hk).symm) (Le.cons (Le1.refl _) (Le.cons (Le1.refl _) Le.nil)))))) ?_
  rintro obs r' ⟨rfl, h⟩
  rcases h with ⟨h, rfl⟩ | ⟨l, h, rfl⟩
  · exact ⟨_, ⟨rfl, [], false, rfl, .inl ⟨h, rfl, rfl⟩⟩, Le1.tup (Le.cons Le1.nil (Le.cons (Le1.refl _) Le.nil))⟩
  · exact ⟨_, ⟨rfl, _, true, rfl, .inr ⟨l, h, rfl, rfl⟩⟩, Le1.refl _⟩
theorem orSame (nm : Nat → ByteArray) (l : List (Bool × Nat)) (hl : l.length ≤ maxLen) : Fn1 Try.prog 28 [.c (.sl 2 l.length (cOs nm l)), .c (.sl 2 l.length (cOs nm l))] (boolV true) := by
  refine fn_of_wpx (O := lex) tab_ok (Γ := fun _ => none) (fun _ _ h => by cases h) mixed Try.func28 (by kernel_rfl) rfl rfl rfl (by simp [Try.ntmps28]) (by kernel_rfl) ?_
  have hl' : l.length ≤ 9223372036854775807 := hl
  conv => whnf
  repeat' (first
    | (refine NilG.mk fun bn hbn hbx => ?_; conv => whnf)
    | (refine Both.mk ?_ ?_ <;> conv => whnf)
    | ((first | (refine MkG.box 1 rfl rfl rfl (by decide) ?_) | (refine MkG.box 2 rfl rfl rfl (by decide) ?_) | (refine MkG.box 3 rfl rfl rfl (by decide) ?_) | (refine MkG.row ?_)); conv => whnf)
    | exact trivial
    | (refine Br.mk (fun hb => ?_) (fun hb => ?_) <;> (first | (exfalso; revert hb; decide) | ((try simp only [BL] at hb) <;> (try simp only [DL] at hb) <;> (first | (exfalso; omega) | (conv => whnf)))))
    | (refine And.intro ?_ ?_; (focus (first | exact id | exact rfl | exact trivial | (intro hg; first | exact hg | exact rfl | (simp; done) | (simp at hg ⊢; assumption)) | omega | decide | exact is2_c _ _ _ | exact is1_c _ _ | exact isS_c _ _ | exact isB_c _ _ | exact Nat.le_refl _ | assumption | exact mulLe (by decide) (by omega) | exact mulLe2 (by decide) (by omega) (by omega) | (intros; simp only [BL] at *; omega) | (intros; (try simp only [BL] at *); (try simp only [DL] at *); omega) | (intros; simp only [BL] at *; rw [wr_id (by omega) (by omega)]; omega) | (intro h1 h2; exact Bool.and_eq_true_iff.2 ⟨h1, h2⟩) | (intros; simp_all; done))); conv => whnf)
    | (refine Or.inr (And.intro rfl ?_); first | (refine congrArg intV ?_) | (refine congrArg boolV ?_) | (refine tupII ?_ ?_) | (refine tupIII ?_ ?_ ?_) | (refine tupU ?_ ?_ ?_ ?_ ?_) | exact rfl))
  · exact absurd trivial hb
  refine sem_loop tab_ok gamN1_ok mixed (by kernel_rfl) (O := lex) (fun i : Nat => ⟨[(0, .c (.sl 2 l.length (cOs nm l))), (1, .c (.sl 2 l.length (cOs nm l))), (12, intV l.length), (13, intV i)], []⟩) (fun i => i ≤ l.length) (fun i => l.length - i) ⟨0, [], Nat.zero_le _, ?_⟩ fun i hi => ?_
  · refine Sub.of ?_ ?_ ?_
    repeat' (first | (refine And.intro ?_ ?_) | exact trivial | exact fun _ _ _ => hsc _ _ | (exact congrArg intV (by first | with_reducible rfl | with_reducible assumption)) | exact (rfl : AV.idsLt _ _ = true) | exact (rfl : _ = AV.ren _ (.own _)) | exact (rfl : _ = AV.ren _ (.fn _ _)) | exact (rfl : _ = AV.ren _ (.gh _)) | (exact congrArg intV (by assumption)) | (refine congrArg intV ((wr_id (by omega) (by omega)).trans (by omega))) | exact rfl | (simp only [Int.toNat_natCast, Int.toNat_zero, Nat.sub_zero, Nat.zero_add]; first | exact rfl | done) | exact all0 | exact fun h => Bool.noConfusion h | exact fun _ _ _ _ => rfl | omega)
  conv => whnf
  repeat' (first
    | (refine NilG.mk fun bn hbn hbx => ?_; conv => whnf)
    | (refine Both.mk ?_ ?_ <;> conv => whnf)
    | ((first | (refine MkG.box 1 rfl rfl rfl (by decide) ?_) | (refine MkG.box 2 rfl rfl rfl (by decide) ?_) | (refine MkG.box 3 rfl rfl rfl (by decide) ?_) | (refine MkG.row ?_)); conv => whnf)
    | exact trivial
    | (refine Br.mk (fun hb => ?_) (fun hb => ?_) <;> (first | (exfalso; revert hb; decide) | ((try simp only [BL] at hb) <;> (try simp only [DL] at hb) <;> (first | (exfalso; omega) | (conv => whnf)))))
    | (refine And.intro ?_ ?_; (focus (first | exact id | exact rfl | exact trivial | (intro hg; first | exact hg | exact rfl | (simp; done) | (simp at hg ⊢; assumption)) | omega | decide | exact is2_c _ _ _ | exact is1_c _ _ | exact isS_c _ _ | exact isB_c _ _ | exact Nat.le_refl _ | assumption | exact mulLe (by decide) (by omega) | exact mulLe2 (by decide) (by omega) (by omega) | (intros; simp only [BL] at *; omega) | (intros; (try simp only [BL] at *); (try simp only [DL] at *); omega) | (intros; simp only [BL] at *; rw [wr_id (by omega) (by omega)]; omega) | (intro h1 h2; exact Bool.and_eq_true_iff.2 ⟨h1, h2⟩) | exact ⟨rfl, by omega, by decide⟩ | (intros; simp_all; done))); conv => whnf)
    | (refine Or.inr (And.intro rfl ?_); first | (refine congrArg intV ?_) | (refine congrArg boolV ?_) | (refine tupII ?_ ?_) | (refine tupIII ?_ ?_ ?_) | (refine tupU ?_ ?_ ?_ ?_ ?_) | exact rfl))
  · exfalso
    rcases hb with h | h | h
    · exact h trivial
    · exact b_ne.1 h rfl
    · cases h
  · refine ⟨i + 1, [], by omega, by omega, ?_⟩
    refine Sub.of ?_ ?_ ?_
    repeat' (first | (refine And.intro ?_ ?_) | exact trivial | exact fun _ _ _ => hsc _ _ | (exact congrArg intV (by first | with_reducible rfl | with_reducible assumption)) | exact (rfl : AV.idsLt _ _ = true) | exact (rfl : _ = AV.ren _ (.own _)) | exact (rfl : _ = AV.ren _ (.fn _ _)) | exact (rfl : _ = AV.ren _ (.gh _)) | (exact congrArg intV (by assumption)) | (refine congrArg intV ((wr_id (by omega) (by omega)).trans (by omega))) | exact rfl | (simp only [Int.toNat_natCast, Int.toNat_zero, Nat.sub_zero, Nat.zero_add]; first | exact rfl | done) | exact all0 | exact fun h => Bool.noConfusion h | exact fun _ _ _ _ => rfl | omega)
  · rfl
abbrev bA1 : ByteArray := ⟨#[65]⟩
abbrev bB1 : ByteArray := ⟨#[66]⟩
def fR : Rls := ⟨1, fun _ => true, fun _ => bA1, fun _ => ⟨1, fun _ => 2, fun _ => bB1, fun _ => 0, fun _ => 0⟩⟩
def fS : Sts := ⟨2, fun k => if k = 0 then bA1 else bB1, fun k => if k = 0 then false else true⟩
def fT : Sts := ⟨2, fun k => if k = 0 then bA1 else bB1, fun k => if k = 0 then true else false⟩
theorem fR_ok : fR.ok := ⟨by decide, fun k hk => ⟨by show 1 ≤ maxLen; decide, by show 1 ≤ maxLen; decide, fun j hj => by show 1 ≤ maxLen; decide⟩⟩
theorem fS_ok : fS.ok := ⟨by decide, fun k hk => match k, hk with | 0, _ => by decide | 1, _ => by decide⟩
theorem fT_ok : fT.ok := ⟨by decide, fun k hk => match k, hk with | 0, _ => by decide | 1, _ => by decide⟩
theorem fPl : plnS fR fS fT 0 (fun _ => ByteArray.empty) = some [1, 0] := by decide +kernel
theorem fAl : alB fS fT = true := by decide +kernel
theorem fR0 : rlsE fR = 0 := by decide +kernel
theorem fS0 : stsE fS = 0 := by decide +kernel
theorem fT0 : stsE fT = 0 := by decide +kernel
theorem orFact : Fn Try.prog 16 [rlV fR, stV fS, stV fT, .c (.sl 1 0 (cS fun _ => ByteArray.empty))] (fun obs v => obs = [] ∧ v = .tup [.c (.sl 2 2 (cOs fS.nm [(false, 1), (true, 0)])), intV 0]) := by
  refine Fn.mono (orPlanA fR fS fT 0 _ fR_ok fS_ok fT_ok (by decide) (by decide) fR0 fS0 fT0) ?_
  rintro obs r ⟨rfl, gl, E, rfl, _, h⟩
  obtain ⟨rfl, rfl⟩ := (h fAl).2 _ fPl
  refine ⟨rfl, ?_⟩
  have e : stp (codN fS.cl fS.n) [1, 0] = [(false, 1), (true, 0)] := by decide +kernel
  rw [e]
  rfl
end Go.Proofs.Ytemfikdogdadnaa
