/-
  The package commit: Serve.
-/
import Derived.Test.YtemfikdogdadnaaComC
namespace Go.Proofs.Ytemfikdogdadnaa
open Go.RowKit

def seE (u : Nat → CuR) (o : Nat → Bool) (n no : Nat) (T : Int) : Int :=
  if csE u n 1 (fun _ => T) ≠ 0 then csE u n 1 (fun _ => T) else if no ≠ n then 3 else if 0 ≤ T - S (cLo u o) n ∧ T - S (cLo u o) n ≤ S (cR u o) n then 0 else 8
def seG (u : Nat → CuR) (o : Nat → Bool) (n no : Nat) (T : Int) (obs : List OB) (v : AV) : Prop :=
  obs = [] ∧ ((seE u o n no T ≠ 0 ∧ v = .tup [.c (.v (.slice none 0 0)), intV 0, intV (seE u o n no T)]) ∨
    (seE u o n no T = 0 ∧ ∃ π, Sorted (bSz (cM u o) (cQ u o) n) π (oN (cM u o) n) ∧
      v = .tup [.c (.sl 1 n (c1 fun k => if o k then cLo u o k + cX u o n π (T - S (cLo u o) n) k else -1)),
        intV (S (cC u (cLo u o)) n + S (fun b => bTk (cM u o) (cP u o) n π (T - S (cLo u o) n) b * bSz (cM u o) (cQ u o) n (π b)) (oN (cM u o) n)), intV 0]))
theorem cmServeF (u : Nat → CuR) (o : Nat → Bool) (n no : Nat) (T : Int) (hn : n ≤ maxLen) (hno : no ≤ maxLen) (hz : ∀ k, k < n → cuZ (u k)) :
    Fn Try.prog 24 [.c (.sl 13 n (cCu u)), .c (.sl 1 no (cB o)), intV T] (seG u o n no T) := by
  refine fn_of_wpx (O := lex) tab_ok gamC1_ok mixed Try.func24 (by kernel_rfl) rfl rfl rfl (by simp [Try.ntmps24]) (by kernel_rfl) ?_
  have hn' : n ≤ 9223372036854775807 := hn
  have hno' : no ≤ 9223372036854775807 := hno
  conv => whnf
  repeat' (first
    | (refine NilG.mk fun bn hbn hbx => ?_; conv => whnf)
    | (refine Both.mk ?_ ?_ <;> conv => whnf)
    | ((first | (refine MkG.box 1 rfl rfl rfl (by decide) ?_) | (refine MkG.box 2 rfl rfl rfl (by decide) ?_) | (refine MkG.box 3 rfl rfl rfl (by decide) ?_) | (refine MkG.row ?_)); conv => whnf)
    | exact trivial
    | (refine Br.mk (fun hb => ?_) (fun hb => ?_) <;> (first | (exfalso; revert hb; decide) | ((try simp only [BL] at hb) <;> (try simp only [DL] at hb) <;> conv => whnf)))
    | (refine And.intro ?_ ?_; (focus (first | exact id | exact rfl | exact trivial | (intro hg; first | exact hg | exact rfl | (simp; done) | (simp at hg ⊢; assumption)) | omega | decide | exact is2_c _ _ _ | exact is1_c _ _ | exact isS_c _ _ | exact isB_c _ _ | exact Nat.le_refl _ | assumption | exact mulLe (by decide) (by omega) | exact mulLe2 (by decide) (by omega) (by omega) | (intros; simp only [BL] at *; omega) | (intros; (try simp only [BL] at *); (try simp only [DL] at *); omega) | (intros; simp only [BL] at *; rw [wr_id (by omega) (by omega)]; omega) | (intro h1 h2; exact Bool.and_eq_true_iff.2 ⟨h1, h2⟩) | (intros; simp_all; done))); conv => whnf)
    | (refine Or.inr (And.intro rfl ?_); first | (refine congrArg intV ?_) | (refine congrArg boolV ?_) | (refine tupII ?_ ?_) | (refine tupIII ?_ ?_ ?_) | (refine tupU ?_ ?_ ?_ ?_ ?_) | exact rfl))
  refine CallG.mk (Fn.mono ((duCheckAll u n 1 (fun _ => T) hn (by decide) hz).le (Le.cons (Le1.refl _) (Le.cons (Le1.sl fun k hk j hj => ?_) Le.nil))) ?_)
  · match k, j, hk, hj with
    | 0, 0, _, _ => rfl
  rintro obs r ⟨rfl, rfl⟩
  conv => whnf
  repeat' (first
    | (refine NilG.mk fun bn hbn hbx => ?_; conv => whnf)
    | (refine Both.mk ?_ ?_ <;> conv => whnf)
    | ((first | (refine MkG.box 1 rfl rfl rfl (by decide) ?_) | (refine MkG.box 2 rfl rfl rfl (by decide) ?_) | (refine MkG.box 3 rfl rfl rfl (by decide) ?_) | (refine MkG.row ?_)); conv => whnf)
    | exact trivial
    | (refine Br.mk (fun hb => ?_) (fun hb => ?_) <;> (first | (exfalso; revert hb; decide) | ((try simp only [BL] at hb) <;> (try simp only [DL] at hb) <;> conv => whnf)))
    | (refine And.intro ?_ ?_; (focus (first | exact id | exact rfl | exact trivial | (intro hg; first | exact hg | exact rfl | (simp; done) | (simp at hg ⊢; assumption)) | omega | decide | exact is2_c _ _ _ | exact is1_c _ _ | exact isS_c _ _ | exact isB_c _ _ | exact Nat.le_refl _ | assumption | exact mulLe (by decide) (by omega) | exact mulLe2 (by decide) (by omega) (by omega) | (intros; simp only [BL] at *; omega) | (intros; (try simp only [BL] at *); (try simp only [DL] at *); omega) | (intros; simp only [BL] at *; rw [wr_id (by omega) (by omega)]; omega) | (intro h1 h2; exact Bool.and_eq_true_iff.2 ⟨h1, h2⟩) | (intros; simp_all; done))); conv => whnf)
    | (refine Or.inr (And.intro rfl ?_); first | (refine congrArg intV ?_) | (refine congrArg boolV ?_) | (refine tupII ?_ ?_) | (refine tupIII ?_ ?_ ?_) | (refine tupU ?_ ?_ ?_ ?_ ?_) | exact rfl))
  · have h0 : seE u o n no T = csE u n 1 (fun _ => T) := if_pos hb
    exact .inr ⟨rfl, .inl ⟨by rw [h0]; exact hb, by rw [h0]; rfl⟩⟩
  · rename_i h1
    have h0 : seE u o n no T = 3 := by unfold seE; rw [if_neg (fun h => h h1), if_pos (by omega)]
    exact .inr ⟨rfl, .inl ⟨by rw [h0]; decide, by rw [h0]; rfl⟩⟩
  · rename_i h1
    obtain rfl : no = n := by omega
    obtain ⟨g1, _, g3, g4⟩ := csE_zero h1
    have h0 : seE u o no no T = if 0 ≤ T - S (cLo u o) no ∧ T - S (cLo u o) no ≤ S (cR u o) no then 0 else 8 := by unfold seE; rw [if_neg (fun h => h h1), if_neg (fun h => h rfl)]
    refine CallG.mk (Fn.mono (cmServe u o no T g1 (g4 0 (by decide)) g3 hz) ?_)
    rintro obs r ⟨rfl, ⟨hT, rfl⟩ | ⟨hT, π, hq, rfl⟩⟩
    · conv => whnf
      repeat' (first
        | (refine NilG.mk fun bn hbn hbx => ?_; conv => whnf)
        | (refine Both.mk ?_ ?_ <;> conv => whnf)
        | ((first | (refine MkG.box 1 rfl rfl rfl (by decide) ?_) | (refine MkG.box 2 rfl rfl rfl (by decide) ?_) | (refine MkG.box 3 rfl rfl rfl (by decide) ?_) | (refine MkG.row ?_)); conv => whnf)
        | exact trivial
        | (refine Br.mk (fun hb => ?_) (fun hb => ?_) <;> (first | (exfalso; revert hb; decide) | ((try simp only [BL] at hb) <;> (try simp only [DL] at hb) <;> conv => whnf)))
        | (refine And.intro ?_ ?_; (focus (first | exact id | exact rfl | exact trivial | (intro hg; first | exact hg | exact rfl | (simp; done) | (simp at hg ⊢; assumption)) | omega | decide | exact is2_c _ _ _ | exact is1_c _ _ | exact isS_c _ _ | exact isB_c _ _ | exact Nat.le_refl _ | assumption | exact mulLe (by decide) (by omega) | exact mulLe2 (by decide) (by omega) (by omega) | (intros; simp only [BL] at *; omega) | (intros; (try simp only [BL] at *); (try simp only [DL] at *); omega) | (intros; simp only [BL] at *; rw [wr_id (by omega) (by omega)]; omega) | (intro h1 h2; exact Bool.and_eq_true_iff.2 ⟨h1, h2⟩) | (intros; simp_all; done))); conv => whnf)
        | (refine Or.inr (And.intro rfl ?_); first | (refine congrArg intV ?_) | (refine congrArg boolV ?_) | (refine tupII ?_ ?_) | (refine tupIII ?_ ?_ ?_) | (refine tupU ?_ ?_ ?_ ?_ ?_) | exact rfl))
      rw [if_neg (by omega)] at h0
      exact .inr ⟨rfl, .inl ⟨by rw [h0]; decide, by rw [h0]; rfl⟩⟩
    · conv => whnf
      repeat' (first
        | (refine NilG.mk fun bn hbn hbx => ?_; conv => whnf)
        | (refine Both.mk ?_ ?_ <;> conv => whnf)
        | ((first | (refine MkG.box 1 rfl rfl rfl (by decide) ?_) | (refine MkG.box 2 rfl rfl rfl (by decide) ?_) | (refine MkG.box 3 rfl rfl rfl (by decide) ?_) | (refine MkG.row ?_)); conv => whnf)
        | exact trivial
        | (refine Br.mk (fun hb => ?_) (fun hb => ?_) <;> (first | (exfalso; revert hb; decide) | ((try simp only [BL] at hb) <;> (try simp only [DL] at hb) <;> conv => whnf)))
        | (refine And.intro ?_ ?_; (focus (first | exact id | exact rfl | exact trivial | (intro hg; first | exact hg | exact rfl | (simp; done) | (simp at hg ⊢; assumption)) | omega | decide | exact is2_c _ _ _ | exact is1_c _ _ | exact isS_c _ _ | exact isB_c _ _ | exact Nat.le_refl _ | assumption | exact mulLe (by decide) (by omega) | exact mulLe2 (by decide) (by omega) (by omega) | (intros; simp only [BL] at *; omega) | (intros; (try simp only [BL] at *); (try simp only [DL] at *); omega) | (intros; simp only [BL] at *; rw [wr_id (by omega) (by omega)]; omega) | (intro h1 h2; exact Bool.and_eq_true_iff.2 ⟨h1, h2⟩) | (intros; simp_all; done))); conv => whnf)
        | (refine Or.inr (And.intro rfl ?_); first | (refine congrArg intV ?_) | (refine congrArg boolV ?_) | (refine tupII ?_ ?_) | (refine tupIII ?_ ?_ ?_) | (refine tupU ?_ ?_ ?_ ?_ ?_) | exact rfl))
      · rw [if_neg (by omega)] at h0
        exact .inr ⟨rfl, .inl ⟨by rw [h0]; decide, by rw [h0]; rfl⟩⟩
      · rw [if_pos (by omega)] at h0
        exact .inr ⟨rfl, .inr ⟨h0, π, hq, rfl⟩⟩
/-- the cost in terms of all powers -/
theorem sv_cost {u : Nat → CuR} {o : Nat → Bool} {n : Nat} {π : Nat → Nat} (hv : ∀ k, k < n → cuE (u k) = 0) (hq : Sorted (bSz (cM u o) (cQ u o) n) π (oN (cM u o) n)) {D : Int} (h0 : 0 ≤ D) (h1 : D ≤ S (cR u o) n) :
    S (cC u (cLo u o)) n + S (fun b => bTk (cM u o) (cP u o) n π D b * bSz (cM u o) (cQ u o) n (π b)) (oN (cM u o) n) = S (cC u fun k => cLo u o k + cX u o n π D k) n := by
  have hs := cBlks hv hq
  have e := cSum (o := o) hv
  obtain ⟨B, hB⟩ := hs.at h0 (by omega)
  obtain ⟨_, hb⟩ := cX_b hv hq h0 h1
  rw [hs.cost hB, ← S_plus2]
  refine S_congr fun k hk => ?_
  exact (cct (o := o) (hv k hk) (hb k hk).1 (hb k hk).2).symm

def seH (u : Nat → CuR) (o : Nat → Bool) (n no : Nat) (T : Int) (obs : List OB) (v : AV) : Prop :=
  obs = [] ∧ ∃ K g c, v = .tup [.c (.sl 1 K (c1 g)), intV c, intV (seE u o n no T)] ∧ (seE u o n no T ≠ 0 → K = 0 ∧ c = 0) ∧
    (seE u o n no T = 0 → K = n ∧ ∃ π, Sorted (bSz (cM u o) (cQ u o) n) π (oN (cM u o) n) ∧ (g = fun k => if o k then cLo u o k + cX u o n π (T - S (cLo u o) n) k else -1) ∧ c = S (cC u fun k => cLo u o k + cX u o n π (T - S (cLo u o) n) k) n)
theorem vTup {bs' bs : List AV} (h : Le bs' bs) : Le1 (.tup bs') (.tup bs) := fun σ I w v hd => by
  simp only [Den] at hd ⊢
  obtain ⟨us, e, h1⟩ := hd
  exact ⟨us, e, h _ _ _ _ h1⟩
theorem vNil {sz : Nat} {f : Nat → Nat → L} : Le1 (.c (.v (.slice none 0 0))) (.c (.sl sz 0 f)) := fun σ I w v hd => by
  simp only [Den, L.rd] at hd ⊢
  obtain ⟨rfl, _⟩ := hd
  exact ⟨none, 0, rfl, Nat.le_refl _, Nat.zero_le _, fun h => absurd h (Nat.lt_irrefl 0)⟩
theorem seE_zero {u : Nat → CuR} {o : Nat → Bool} {n no : Nat} {T : Int} (h : seE u o n no T = 0) : csE u n 1 (fun _ => T) = 0 ∧ no = n ∧ 0 ≤ T - S (cLo u o) n ∧ T - S (cLo u o) n ≤ S (cR u o) n := by
  unfold seE at h
  split at h
  · rename_i hh; exact absurd h hh
  · rename_i h0
    split at h
    · cases h
    · split at h
      · rename_i h1 h2
        exact ⟨by simpa using h0, by omega, h2⟩
      · cases h
theorem serveR (u : Nat → CuR) (o : Nat → Bool) (n no : Nat) (T : Int) (hn : n ≤ maxLen) (hno : no ≤ maxLen) (hz : ∀ k, k < n → cuZ (u k)) :
    Fn Try.prog 24 [.c (.sl 13 n (cCu u)), .c (.sl 1 no (cB o)), intV T] (seH u o n no T) :=
  (cmServeF u o n no T hn hno hz).res fun obs r ⟨h1, h2⟩ => by
    rcases h2 with ⟨h2, rfl⟩ | ⟨h2, π, hq, rfl⟩
    · exact ⟨_, ⟨h1, 0, fun _ => 0, 0, rfl, fun _ => ⟨rfl, rfl⟩, fun h => absurd h h2⟩, vTup (Le.cons vNil (Le.cons (Le1.refl _) (Le.cons (Le1.refl _) Le.nil)))⟩
    · obtain ⟨g1, g2, g3, g4⟩ := seE_zero h2
      obtain ⟨_, _, g5, _⟩ := csE_zero g1
      rw [sv_cost g5 hq g3 g4]
      exact ⟨_, ⟨h1, n, _, _, rfl, fun h => absurd h2 h, fun _ => ⟨rfl, π, hq, rfl, rfl⟩⟩, by rw [h2]; exact Le1.refl _⟩
end Go.Proofs.Ytemfikdogdadnaa
