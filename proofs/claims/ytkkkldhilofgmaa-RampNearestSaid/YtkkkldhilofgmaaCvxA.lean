/-
  convexpl.Add.
-/
import Derived.Test.YtkkkldhilofgmaaCvxAP
import Derived.Test.YtkkkldhilofgmaaCvxN
import Derived.Test.YtkkkldhilofgmaaCvxO
namespace Go.Proofs.Ytkkkldhilofgmaa
open Go.RowKit

def gamXK : Gam := fun f => match f with
  | 68 => some (sCxi (fun lo v n p q x => okCx lo v n p q ∧ lo ≤ x ∧ x ≤ lo + S p n) fun lo v n p q x => intV (v + S (ct p q (x - lo)) n))
  | 65 => some (sCx okCx fun lo _ n p _ => intV (lo + S p n))
  | _ => none
theorem gamXK_ok : GOk Try.prog gamXK := fun f g h => by
  unfold gamXK at h
  split at h
  · injection h with h; subst h; exact sCxi_ok fun lo v n p q x h => cxat lo v n p q x h
  · injection h with h; subst h; exact sCx_ok fun lo v n p q h => cxhigh lo v n p q h
  · cases h
/-- the second function may be read before the first one is cut -/
def ordAdd : Ord := fun id => if id = 7 then some (.go 1 (.go 2 (.go 5 (.go 6 (.go 0 (.fork (.alt 3 (.go 4 (.go 7 (.go 8 (.go 9 (.done))))) (.alt 4 (.go 3 (.go 7 (.go 8 (.go 9 (.done))))) (.none))))))))) else none
/-- the pieces of a function between two levels -/
def kN (n : Nat) (p : Nat → Int) (L E : Int) : Nat := cn p L E n
def kP (n : Nat) (p : Nat → Int) (L E : Int) (j : Nat) : Int := ln p L E (cA p L E n + j)
def kQ (n : Nat) (p q : Nat → Int) (L E : Int) (j : Nat) : Int := q (cA p L E n + j)
theorem kcut {lo v : Int} {n : Nat} {p q : Nat → Int} {low e : Int} (h : okCx lo v n p q) (h1 : lo ≤ low) (h2 : low ≤ e) (h3 : e ≤ lo + S p n) :
    okCx low (cW v n p q (low - lo).toNat) (kN n p (low - lo) (e - lo)) (kP n p (low - lo) (e - lo)) (kQ n p q (low - lo) (e - lo)) ∧ S (kP n p (low - lo) (e - lo)) (kN n p (low - lo) (e - lo)) = e - low ∧
    ∀ m : Nat, low + m ≤ e → cW (cW v n p q (low - lo).toNat) (kN n p (low - lo) (e - lo)) (kP n p (low - lo) (e - lo)) (kQ n p q (low - lo) (e - lo)) m = cW v n p q ((low - lo).toNat + m) := by
  obtain ⟨L, hL⟩ : ∃ L : Nat, low - lo = L := ⟨(low - lo).toNat, by omega⟩
  obtain ⟨E, hE⟩ : ∃ E : Nat, e - lo = E := ⟨(e - lo).toNat, by omega⟩
  rw [hL, hE, Int.toNat_natCast]
  obtain rfl : low = lo + L := by omega
  refine ⟨cut_ok h (by omega) (by omega), ?_, fun m hm => cut_W h (by omega) (by omega) m (by omega)⟩
  have := cut_T (p := p) (n := n) (L := (L : Int)) (E := (E : Int)) h.pos (by omega) (by omega) (by omega)
  exact this.trans (by omega)
/-- the sum of two functions, in pieces -/
def Sum2 (lo v : Int) (n : Nat) (p q : Nat → Int) (lo' v' : Int) (n' : Nat) (p' q' : Nat → Int) (K : Nat) (V : Int) (P Q : Nat → Int) : Prop :=
  (∀ i, i < K → 1 ≤ P i ∧ P i ≤ 2000000) ∧ K ≤ 128 ∧ S P K = min (lo + S p n) (lo' + S p' n') - max lo lo' ∧
  ∀ m : Nat, max lo lo' + m ≤ min (lo + S p n) (lo' + S p' n') → cW V K P Q m = cW v n p q ((max lo lo' - lo).toNat + m) + cW v' n' p' q' ((max lo lo' - lo').toNat + m)
/-- what Add returns -/
def addK (lo v : Int) (n : Nat) (p q : Nat → Int) (lo' v' : Int) (n' : Nat) (p' q' : Nat → Int) (obs : List OB) (r : AV) : Prop :=
  obs = [] ∧ ((cx2E lo v n p q lo' v' n' p' q' ≠ 0 ∧ r = .tup [nulV, intV (cx2E lo v n p q lo' v' n' p' q')]) ∨
    (cx2E lo v n p q lo' v' n' p' q' = 0 ∧ max lo lo' > min (lo + S p n) (lo' + S p' n') ∧ r = .tup [nulV, intV 8]) ∨
    (cx2E lo v n p q lo' v' n' p' q' = 0 ∧ ¬max lo lo' > min (lo + S p n) (lo' + S p' n') ∧ ∃ K V P Q, Sum2 lo v n p q lo' v' n' p' q' K V P Q ∧ madeJ (max lo lo') V K P Q [] r))
def cutKP (n : Nat) (p q : Nat → Int) (L E : Int) (obs : List OB) (r : AV) : Prop := obs = [.row 47 2 (kN n p L E) false (c2 (kP n p L E) (kQ n p q L E))] ∧ r = .own 0
theorem cxcutP (lo v : Int) (n : Nat) (p q : Nat → Int) (low e : Int) (h : okCx lo v n p q) (h1 : lo ≤ low) (h2 : low ≤ e) (h3 : e ≤ lo + S p n) : Fn Try.prog 66 [cxV lo v n p q, intV low, intV e] (cutKP n p q (low - lo) (e - lo)) :=
  Fn.mono (cxcutO lo v n p q low e h h1 h2 h3) fun _ _ h => h
set_option maxHeartbeats 4000000 in
theorem cxAdd (lo v : Int) (n : Nat) (p q : Nat → Int) (lo' v' : Int) (n' : Nat) (p' q' : Nat → Int) (hn : n ≤ maxLen) (hn' : n' ≤ maxLen) : Fn Try.prog 17 [cxV lo v n p q, cxV lo' v' n' p' q'] (addK lo v n p q lo' v' n' p' q') := by
  refine fn_of_wpx (O := ordAdd) tab_ok gamXK_ok mixed Try.func17 (by kernel_rfl) rfl rfl rfl (by simp [Try.ntmps17]) (by kernel_rfl) ?_
  conv => whnf
  repeat' (first
    | (refine NilG.mk fun bn hbn hbx => ?_; conv => whnf)
    | (refine Both.mk ?_ ?_ <;> conv => whnf)
    | exact trivial
    | (refine Br.mk (fun hb => ?_) (fun hb => ?_) <;> (first | (exfalso; revert hb; decide) | ((try simp only [BL] at hb) <;> (try simp only [DL] at hb) <;> conv => whnf)))
    | (refine And.intro ?_ ?_; (focus (first | exact id | exact rfl | exact trivial | (intro hg; first | exact hg | exact rfl | (simp; done) | (simp at hg ⊢; assumption)) | omega | decide | exact is2_c _ _ _ | exact is1_c _ _ | exact isS_c _ _ | exact isB_c _ _ | exact Nat.le_refl _ | assumption | exact mulLe (by decide) (by omega) | exact mulLe2 (by decide) (by omega) (by omega) | (intros; simp only [BL] at *; omega) | (intros; (try simp only [BL] at *); (try simp only [DL] at *); omega) | (intros; simp only [BL] at *; rw [wr_id (by omega) (by omega)]; omega) | (intro h1 h2; exact Bool.and_eq_true_iff.2 ⟨h1, h2⟩) | (intros; simp_all; done))); conv => whnf)
    | (refine Or.inr (And.intro rfl ?_); first | (refine congrArg intV ?_) | (refine congrArg boolV ?_) | (refine tupII ?_ ?_) | (refine tupIII ?_ ?_ ?_) | (refine tupU ?_ ?_ ?_ ?_ ?_) | exact rfl))
  refine CallG.mk (Fn.mono ((cxcheck2 lo v n p q lo' v' n' p' q' hn hn').le (Le.cons (Le1.l (LLe.sl fun k hk j hj => ?_)) Le.nil)) ?_)
  · have hj : j < 3 := hj
    match k, hk, j, hj with
    | 0, _, 0, _ => exact LLe.of_eq rfl
    | 0, _, 1, _ => exact LLe.of_eq rfl
    | 0, _, 2, _ => exact LLe.of_eq rfl
    | 1, _, 0, _ => exact LLe.of_eq rfl
    | 1, _, 1, _ => exact LLe.of_eq rfl
    | 1, _, 2, _ => exact LLe.of_eq rfl
  rintro obs r ⟨rfl, rfl⟩
  have hz : cx2E lo v n p q lo' v' n' p' q' = 0 → okCx lo v n p q ∧ okCx lo' v' n' p' q' := fun h0 => by
    unfold cx2E at h0
    split at h0
    · rename_i h; exact absurd h0 h
    · rename_i h; exact ⟨cxE_zero (by simpa using h), cxE_zero h0⟩
  conv => whnf
  repeat' (first
    | (refine NilG.mk fun bn hbn hbx => ?_; conv => whnf)
    | (refine Both.mk ?_ ?_ <;> conv => whnf)
    | exact trivial
    | (refine Br.mk (fun hb => ?_) (fun hb => ?_) <;> (first | (exfalso; revert hb; decide) | ((try simp only [BL] at hb) <;> (try simp only [DL] at hb) <;> conv => whnf)))
    | (refine And.intro ?_ ?_; (focus (first | exact id | exact rfl | exact trivial | (intro hg; first | exact hg | exact rfl | (simp; done) | (simp at hg ⊢; assumption)) | omega | decide | exact is2_c _ _ _ | exact is1_c _ _ | exact isS_c _ _ | exact isB_c _ _ | exact Nat.le_refl _ | assumption | exact mulLe (by decide) (by omega) | exact mulLe2 (by decide) (by omega) (by omega) | (intros; simp only [BL] at *; omega) | (intros; (try simp only [BL] at *); (try simp only [DL] at *); omega) | (intros; simp only [BL] at *; rw [wr_id (by omega) (by omega)]; omega) | (intro h1 h2; exact Bool.and_eq_true_iff.2 ⟨h1, h2⟩) | (intros; simp_all; done))); conv => whnf)
    | (refine Or.inr (And.intro rfl ?_); first | (refine congrArg intV ?_) | (refine congrArg boolV ?_) | (refine tupII ?_ ?_) | (refine tupIII ?_ ?_ ?_) | (refine tupU ?_ ?_ ?_ ?_ ?_) | exact rfl))
  · exact .inr ⟨rfl, .inl ⟨hb, rfl⟩⟩
  have h0 : cx2E lo v n p q lo' v' n' p' q' = 0 := hb
  clear hb
  obtain ⟨ok1, ok2⟩ := hz h0
  clear hz
  have b1 := ok1.sS (Nat.le_refl n)
  have b2 := ok2.sS (Nat.le_refl n')
  have c1' := ok1.2
  have c2' := ok2.2
  conv => whnf
  repeat' (first
    | (refine NilG.mk fun bn hbn hbx => ?_; conv => whnf)
    | (refine Both.mk ?_ ?_ <;> conv => whnf)
    | exact trivial
    | (refine Br.mk (fun hb => ?_) (fun hb => ?_) <;> (first | (exfalso; revert hb; decide) | ((try simp only [BL] at hb) <;> (try simp only [DL] at hb) <;> conv => whnf)))
    | (refine And.intro ?_ ?_; (focus (first | exact id | exact rfl | exact trivial | (intro hg; first | exact hg | exact rfl | (simp; done) | (simp at hg ⊢; assumption)) | omega | decide | exact is2_c _ _ _ | exact is1_c _ _ | exact isS_c _ _ | exact isB_c _ _ | exact Nat.le_refl _ | assumption | exact mulLe (by decide) (by omega) | exact mulLe2 (by decide) (by omega) (by omega) | (intros; simp only [BL] at *; omega) | (intros; (try simp only [BL] at *); (try simp only [DL] at *); omega) | (intros; simp only [BL] at *; rw [wr_id (by omega) (by omega)]; omega) | (intro h1 h2; exact Bool.and_eq_true_iff.2 ⟨h1, h2⟩) | first | exact ⟨is2_c _ _ _, ok1⟩ | exact ⟨is2_c _ _ _, ok2⟩ | (intros; simp_all; done))); conv => whnf)
    | (refine Or.inr (And.intro rfl ?_); first | (refine congrArg intV ?_) | (refine congrArg boolV ?_) | (refine tupII ?_ ?_) | (refine tupIII ?_ ?_ ?_) | (refine tupU ?_ ?_ ?_ ?_ ?_) | exact rfl))
  · exact .inr ⟨rfl, .inr (.inl ⟨h0, hb, rfl⟩)⟩
  iterate 2
    have hlh := hb
    clear hb
    obtain ⟨ka, sa, va⟩ := kcut ok1 (low := max lo lo') (e := min (lo + S p n) (lo' + S p' n')) (by omega) (by omega) (by omega)
    obtain ⟨kb, sb, vb⟩ := kcut ok2 (low := max lo lo') (e := min (lo + S p n) (lo' + S p' n')) (by omega) (by omega) (by omega)
    have w1 := cxcutP lo v n p q (max lo lo') (min (lo + S p n) (lo' + S p' n')) ok1 (by omega) (by omega) (by omega)
    have w2 := cxcutP lo' v' n' p' q' (max lo lo') (min (lo + S p n) (lo' + S p' n')) ok2 (by omega) (by omega) (by omega)
    unfold cutKP at w1 w2
    generalize kN n p (max lo lo' - lo) (min (lo + S p n) (lo' + S p' n') - lo) = n1 at *
    generalize kP n p (max lo lo' - lo) (min (lo + S p n) (lo' + S p' n') - lo) = P1 at *
    generalize kQ n p q (max lo lo' - lo) (min (lo + S p n) (lo' + S p' n') - lo) = Q1 at *
    generalize kN n' p' (max lo lo' - lo') (min (lo + S p n) (lo' + S p' n') - lo') = n2 at *
    generalize kP n' p' (max lo lo' - lo') (min (lo + S p n) (lo' + S p' n') - lo') = P2 at *
    generalize kQ n' p' q' (max lo lo' - lo') (min (lo + S p n) (lo' + S p' n') - lo') = Q2 at *
    have fa : okCx lo v n p q ∧ lo ≤ max lo lo' ∧ max lo lo' ≤ lo + S p n := ⟨ok1, by omega, by omega⟩
    have fb : okCx lo' v' n' p' q' ∧ lo' ≤ max lo lo' ∧ max lo lo' ≤ lo' + S p' n' := ⟨ok2, by omega, by omega⟩
    have hp1 := ka.pos
    have hp2 := kb.pos
    have hn1 : n1 ≤ 64 := ka.1
    have hn2 : n2 ≤ 64 := kb.1
    refine CallG.mk (Fn.mono w1 ?_)
    rintro obs r ⟨rfl, rfl⟩
    conv => whnf
    repeat' (first
      | (refine NilG.mk fun bn hbn hbx => ?_; conv => whnf)
      | (refine Both.mk ?_ ?_ <;> conv => whnf)
      | exact trivial
      | (refine Br.mk (fun hb => ?_) (fun hb => ?_) <;> (first | (exfalso; revert hb; decide) | ((try simp only [BL] at hb) <;> (try simp only [DL] at hb) <;> conv => whnf)))
      | (refine And.intro ?_ ?_; (focus (first | exact id | exact rfl | exact trivial | (intro hg; first | exact hg | exact rfl | (simp; done) | (simp at hg ⊢; assumption)) | omega | decide | exact is2_c _ _ _ | exact is1_c _ _ | exact isS_c _ _ | exact isB_c _ _ | exact Nat.le_refl _ | assumption | exact mulLe (by decide) (by omega) | exact mulLe2 (by decide) (by omega) (by omega) | (intros; simp only [BL] at *; omega) | (intros; (try simp only [BL] at *); (try simp only [DL] at *); omega) | (intros; simp only [BL] at *; rw [wr_id (by omega) (by omega)]; omega) | (intro h1 h2; exact Bool.and_eq_true_iff.2 ⟨h1, h2⟩) | (intros; simp_all; done))); conv => whnf)
      | (refine Or.inr (And.intro rfl ?_); first | (refine congrArg intV ?_) | (refine congrArg boolV ?_) | (refine tupII ?_ ?_) | (refine tupIII ?_ ?_ ?_) | (refine tupU ?_ ?_ ?_ ?_ ?_) | exact rfl))
    refine CallG.mk (Fn.mono w2 ?_)
    rintro obs r ⟨rfl, rfl⟩
    conv => whnf
    repeat' (first
      | (refine NilG.mk fun bn hbn hbx => ?_; conv => whnf)
      | (refine Both.mk ?_ ?_ <;> conv => whnf)
      | exact trivial
      | (refine Br.mk (fun hb => ?_) (fun hb => ?_) <;> (first | (exfalso; revert hb; decide) | ((try simp only [BL] at hb) <;> (try simp only [DL] at hb) <;> conv => whnf)))
      | (refine And.intro ?_ ?_; (focus (first | exact id | exact rfl | exact trivial | (intro hg; first | exact hg | exact rfl | (simp; done) | (simp at hg ⊢; assumption)) | omega | decide | exact is2_c _ _ _ | exact is1_c _ _ | exact isS_c _ _ | exact isB_c _ _ | exact Nat.le_refl _ | assumption | exact mulLe (by decide) (by omega) | exact mulLe2 (by decide) (by omega) (by omega) | (intros; simp only [BL] at *; omega) | (intros; (try simp only [BL] at *); (try simp only [DL] at *); omega) | (intros; simp only [BL] at *; rw [wr_id (by omega) (by omega)]; omega) | (intro h1 h2; exact Bool.and_eq_true_iff.2 ⟨h1, h2⟩) | (intros; simp_all; done))); conv => whnf)
      | (refine Or.inr (And.intro rfl ?_); first | (refine congrArg intV ?_) | (refine congrArg boolV ?_) | (refine tupII ?_ ?_) | (refine tupIII ?_ ?_ ?_) | (refine tupU ?_ ?_ ?_ ?_ ?_) | exact rfl))
    refine LoopG.ov 9 4 rfl rfl ?_
    refine LoopG.ov 10 5 rfl rfl ?_
    refine LoopG.nil 11 47 2 rfl ?_
    refine sem_loop tab_ok gamXK_ok mixed (by kernel_rfl) (O := ordAdd) (fun k : Nat => ⟨[(2, .lp 0 0), (3, .lp 1 0), (4, .lp 2 0), (7, intV (max lo lo')), (9, .ov 3 2 (adA P1 P2 k) (n1 - adA P1 P2 k)), (10, .ov 4 2 (adB P1 P2 k) (n2 - adB P1 P2 k)), (11, .own 5)], [.box [intV lo, intV v, .c (.sl 2 n (c2 p q))], .box [intV lo', intV v', .c (.sl 2 n' (c2 p' q'))], .box [intV 0, intV 0, .c (.v (.slice none 0 0))], .row 47 2 n1 false (c2 (rest P1 (adT P1 P2 k)) Q1), .row 47 2 n2 false (c2 (rest P2 (adT P1 P2 k)) Q2), .row 47 2 k false (c2 (adP P1 P2) (adQ P1 Q1 P2 Q2))]⟩) (fun k => AdI n1 n2 P1 P2 k ∧ ∀ i, i < k → AdI n1 n2 P1 P2 i ∧ adA P1 P2 i < n1 ∧ adB P1 P2 i < n2) (fun k => n1 + n2 - (adA P1 P2 k + adB P1 P2 k)) ⟨0, [?_, ?_, ?_, ?_, ?_, ?_], ⟨.zero hp1 hp2, fun i hi => absurd hi (Nat.not_lt_zero i)⟩, ?_⟩ fun k hk => ?_
    rotate_left 6
    · refine Sub.of ?_ ?_ ?_
      repeat' (first | (refine And.intro ?_ ?_) | exact trivial | exact fun _ _ _ => hsc _ _ | (exact congrArg intV (by first | with_reducible rfl | with_reducible assumption)) | exact (rfl : AV.idsLt _ _ = true) | exact (rfl : _ = AV.ren _ (.own _)) | exact (rfl : _ = AV.ren _ (.fn _ _)) | exact (rfl : _ = AV.ren _ (.gh _)) | (exact congrArg intV (by assumption)) | (refine congrArg intV ((wr_id (by omega) (by omega)).trans (by omega))) | exact rfl | (simp only [Int.toNat_natCast, Int.toNat_zero, Nat.sub_zero, Nat.zero_add]; first | exact rfl | done) | exact all0 | exact fun h => Bool.noConfusion h | exact fun _ _ _ _ => rfl | omega)
      · intro a ha b hb9
        match b, hb9 with
        | 0, _ => exact congrArg iL (rest_zero hp1 ha).symm
        | 1, _ => rfl
      · intro a ha b hb9
        match b, hb9 with
        | 0, _ => exact congrArg iL (rest_zero hp2 ha).symm
        | 1, _ => rfl
    obtain ⟨hI, hall⟩ := hk
    have ga := hI.a
    have gb := hI.b
    have gk := hI.k1
    conv => whnf
    repeat' (first
      | (refine NilG.mk fun bn hbn hbx => ?_; conv => whnf)
      | (refine Both.mk ?_ ?_ <;> conv => whnf)
      | exact trivial
      | (refine Br.mk (fun hb => ?_) (fun hb => ?_) <;> (first | (exfalso; revert hb; decide) | ((try simp only [BL] at hb) <;> (try simp only [DL] at hb) <;> conv => whnf)))
      | (refine And.intro ?_ ?_; (focus (first | exact id | exact rfl | exact trivial | (intro hg; first | exact hg | exact rfl | (simp; done) | (simp at hg ⊢; assumption)) | omega | decide | exact is2_c _ _ _ | exact is1_c _ _ | exact isS_c _ _ | exact isB_c _ _ | exact Nat.le_refl _ | assumption | exact mulLe (by decide) (by omega) | exact mulLe2 (by decide) (by omega) (by omega) | (intros; simp only [BL] at *; omega) | (intros; (try simp only [BL] at *); (try simp only [DL] at *); omega) | (intros; simp only [BL] at *; rw [wr_id (by omega) (by omega)]; omega) | (intro h1 h2; exact Bool.and_eq_true_iff.2 ⟨h1, h2⟩) | first | exact ⟨is2_c _ _ _, fa⟩ | exact ⟨is2_c _ _ _, fb⟩ | (intros; simp_all; done))); conv => whnf)
      | (refine Or.inr (And.intro rfl ?_); first | (refine congrArg intV ?_) | (refine congrArg boolV ?_) | (refine tupII ?_ ?_) | (refine tupIII ?_ ?_ ?_) | (refine tupU ?_ ?_ ?_ ?_ ?_) | exact rfl))
    · have ha : adA P1 P2 k < n1 := by have := hb.1; omega
      have hb' : adB P1 P2 k < n2 := by have := hb.2; omega
      have hst := hI.step hp1 hp2 ha hb'
      have hnx := hst.1
      have hpp := hst.2
      have hla := hI.la
      have hlb := hI.lb
      have ra := rest_at hla (hI.ha ha)
      have rb := rest_at hlb (hI.hb hb')
      have hT1 := adT_s P1 P2 k
      have eP : adP P1 P2 k = adT P1 P2 (k + 1) - adT P1 P2 k := rfl
      have s1 : S P1 (adA P1 P2 k + 1) = S P1 (adA P1 P2 k) + P1 (adA P1 P2 k) := rfl
      have s2 : S P2 (adB P1 P2 k + 1) = S P2 (adB P1 P2 k) + P2 (adB P1 P2 k) := rfl
      have pb1 := ka.2.2.2.2.2.1 _ ha
      have pb2 := kb.2.2.2.2.2.1 _ hb'
      have ra' : rest P1 (adT P1 P2 (k + 1)) (adA P1 P2 k) = S P1 (adA P1 P2 k + 1) - adT P1 P2 (k + 1) := by unfold rest; omega
      have rb' : rest P2 (adT P1 P2 (k + 1)) (adB P1 P2 k) = S P2 (adB P1 P2 k + 1) - adT P1 P2 (k + 1) := by unfold rest; omega
      have km : min (rest P1 (adT P1 P2 k) (adA P1 P2 k)) (rest P2 (adT P1 P2 k) (adB P1 P2 k)) = adP P1 P2 k := by omega
      have kx : IntKind.i64.wrap (rest P1 (adT P1 P2 k) (adA P1 P2 k) - min (rest P1 (adT P1 P2 k) (adA P1 P2 k)) (rest P2 (adT P1 P2 k) (adB P1 P2 k))) = rest P1 (adT P1 P2 (k + 1)) (adA P1 P2 k) := by
        rw [km]; exact (wr_id (by omega) (by omega)).trans (by omega)
      have ky : IntKind.i64.wrap (rest P2 (adT P1 P2 k) (adB P1 P2 k) - min (rest P1 (adT P1 P2 k) (adA P1 P2 k)) (rest P2 (adT P1 P2 k) (adB P1 P2 k))) = rest P2 (adT P1 P2 (k + 1)) (adB P1 P2 k) := by
        rw [km]; exact (wr_id (by omega) (by omega)).trans (by omega)
      have kq : IntKind.i64.wrap (Q1 (adA P1 P2 k) + Q2 (adB P1 P2 k)) = adQ P1 Q1 P2 Q2 k := wr_id (by omega) (by omega)
      have hA := adA_s P1 P2 k
      have hB := adB_s P1 P2 k
      have hmore : adA P1 P2 k + adB P1 P2 k < adA P1 P2 (k + 1) + adB P1 P2 (k + 1) := by rw [hA, hB]; split <;> split <;> omega
      have hga := hnx.a
      have hgb := hnx.b
      have hinv : AdI n1 n2 P1 P2 (k + 1) ∧ ∀ i, i < k + 1 → AdI n1 n2 P1 P2 i ∧ adA P1 P2 i < n1 ∧ adB P1 P2 i < n2 := ⟨hnx, fun i hi => by
        by_cases h : i = k
        · rw [h]; exact ⟨hI, ha, hb'⟩
        · exact hall i (by omega)⟩
      have rA : ∀ a, a < n1 → ∀ b, b < 2 → (if a = adA P1 P2 k then (if 0 ≤ b ∧ b < 1 then ([iL (IntKind.i64.wrap (rest P1 (adT P1 P2 k) (adA P1 P2 k) - min (rest P1 (adT P1 P2 k) (adA P1 P2 k)) (rest P2 (adT P1 P2 k) (adB P1 P2 k))))][b]?).getD .un else c2 (rest P1 (adT P1 P2 k)) Q1 a b) else c2 (rest P1 (adT P1 P2 k)) Q1 a b) = c2 (rest P1 (adT P1 P2 (k + 1))) Q1 a b := fun a ha9 b hb9 => by
        by_cases h : a = adA P1 P2 k
        · rw [if_pos h]
          match b, hb9 with
          | 0, _ => rw [if_pos (by omega), h]; exact congrArg iL kx
          | 1, _ => rfl
        · rw [if_neg h]
          match b, hb9 with
          | 0, _ => exact congrArg iL (rest_step hp1 hla (by omega) (by omega) ha9 ha h)
          | 1, _ => rfl
      have rB : ∀ a, a < n2 → ∀ b, b < 2 → (if a = adB P1 P2 k then (if 0 ≤ b ∧ b < 1 then ([iL (IntKind.i64.wrap (rest P2 (adT P1 P2 k) (adB P1 P2 k) - min (rest P1 (adT P1 P2 k) (adA P1 P2 k)) (rest P2 (adT P1 P2 k) (adB P1 P2 k))))][b]?).getD .un else c2 (rest P2 (adT P1 P2 k)) Q2 a b) else c2 (rest P2 (adT P1 P2 k)) Q2 a b) = c2 (rest P2 (adT P1 P2 (k + 1))) Q2 a b := fun a ha9 b hb9 => by
        by_cases h : a = adB P1 P2 k
        · rw [if_pos h]
          match b, hb9 with
          | 0, _ => rw [if_pos (by omega), h]; exact congrArg iL ky
          | 1, _ => rfl
        · rw [if_neg h]
          match b, hb9 with
          | 0, _ => exact congrArg iL (rest_step hp2 hlb (by omega) (by omega) ha9 hb' h)
          | 1, _ => rfl
      dsimp only
      rw [if_pos rfl]
      conv => whnf
      repeat' (first
        | (refine NilG.mk fun bn hbn hbx => ?_; conv => whnf)
        | (refine Both.mk ?_ ?_ <;> conv => whnf)
        | exact trivial
        | (refine Br.mk (fun hb => ?_) (fun hb => ?_) <;> (first | (exfalso; revert hb; decide) | ((try simp only [BL] at hb) <;> (try simp only [DL] at hb) <;> conv => whnf)))
        | (refine And.intro ?_ ?_; (focus (first | exact id | exact rfl | exact trivial | (intro hg; first | exact hg | exact rfl | (simp; done) | (simp at hg ⊢; assumption)) | omega | decide | exact is2_c _ _ _ | exact is1_c _ _ | exact isS_c _ _ | exact isB_c _ _ | exact Nat.le_refl _ | assumption | exact mulLe (by decide) (by omega) | exact mulLe2 (by decide) (by omega) (by omega) | (intros; simp only [BL] at *; omega) | (intros; (try simp only [BL] at *); (try simp only [DL] at *); omega) | (intros; simp only [BL] at *; rw [wr_id (by omega) (by omega)]; omega) | (intro h1 h2; exact Bool.and_eq_true_iff.2 ⟨h1, h2⟩) | (intros; simp_all; done))); conv => whnf)
        | (refine Or.inr (And.intro rfl ?_); first | (refine congrArg intV ?_) | (refine congrArg boolV ?_) | (refine tupII ?_ ?_) | (refine tupIII ?_ ?_ ?_) | (refine tupU ?_ ?_ ?_ ?_ ?_) | exact rfl))
      · have hz1 : rest P1 (adT P1 P2 (k + 1)) (adA P1 P2 k) = 0 := kx.symm.trans hb
        have eA : adA P1 P2 k + 1 = adA P1 P2 (k + 1) := by rw [hA, if_pos (by omega)]
        have fA : AV.ov 3 2 (adA P1 P2 k + 1) (((n1 - adA P1 P2 k : Nat) : Int).toNat - 1) = .ov 3 2 (adA P1 P2 (k + 1)) (n1 - adA P1 P2 (k + 1)) := by
          rw [Int.toNat_natCast, ← eA]; rfl
        clear hb
        dsimp only
        rw [if_pos rfl]
        conv => whnf
        repeat' (first
          | (refine NilG.mk fun bn hbn hbx => ?_; conv => whnf)
          | (refine Both.mk ?_ ?_ <;> conv => whnf)
          | exact trivial
          | (refine Br.mk (fun hb => ?_) (fun hb => ?_) <;> (first | (exfalso; revert hb; decide) | ((try simp only [BL] at hb) <;> (try simp only [DL] at hb) <;> conv => whnf)))
          | (refine And.intro ?_ ?_; (focus (first | exact id | exact rfl | exact trivial | (intro hg; first | exact hg | exact rfl | (simp; done) | (simp at hg ⊢; assumption)) | omega | decide | exact is2_c _ _ _ | exact is1_c _ _ | exact isS_c _ _ | exact isB_c _ _ | exact Nat.le_refl _ | assumption | exact mulLe (by decide) (by omega) | exact mulLe2 (by decide) (by omega) (by omega) | (intros; simp only [BL] at *; omega) | (intros; (try simp only [BL] at *); (try simp only [DL] at *); omega) | (intros; simp only [BL] at *; rw [wr_id (by omega) (by omega)]; omega) | (intro h1 h2; exact Bool.and_eq_true_iff.2 ⟨h1, h2⟩) | (intros; simp_all; done))); conv => whnf)
          | (refine Or.inr (And.intro rfl ?_); first | (refine congrArg intV ?_) | (refine congrArg boolV ?_) | (refine tupII ?_ ?_) | (refine tupIII ?_ ?_ ?_) | (refine tupU ?_ ?_ ?_ ?_ ?_) | exact rfl))
        · have hz2 : rest P2 (adT P1 P2 (k + 1)) (adB P1 P2 k) = 0 := ky.symm.trans hb
          have eB : adB P1 P2 k + 1 = adB P1 P2 (k + 1) := by rw [hB, if_pos (by omega)]
          have fB : AV.ov 4 2 (adB P1 P2 k + 1) (((n2 - adB P1 P2 k : Nat) : Int).toNat - 1) = .ov 4 2 (adB P1 P2 (k + 1)) (n2 - adB P1 P2 (k + 1)) := by
            rw [Int.toNat_natCast, ← eB]; rfl
          clear hb
          refine ⟨k + 1, [0, 1, 2, 3, 4, 7], hinv, by omega, ?_⟩
          refine Sub.of ?_ ?_ ?_
          repeat' (first | ((first | (refine And.intro ?_ ?_) | exact trivial | exact fA | exact fB | exact rA | exact rB)) | (refine And.intro ?_ ?_) | exact trivial | exact fun _ _ _ => hsc _ _ | (exact congrArg intV (by first | with_reducible rfl | with_reducible assumption)) | exact (rfl : AV.idsLt _ _ = true) | exact (rfl : _ = AV.ren _ (.own _)) | exact (rfl : _ = AV.ren _ (.fn _ _)) | exact (rfl : _ = AV.ren _ (.gh _)) | (exact congrArg intV (by assumption)) | (refine congrArg intV ((wr_id (by omega) (by omega)).trans (by omega))) | exact rfl | (simp only [Int.toNat_natCast, Int.toNat_zero, Nat.sub_zero, Nat.zero_add]; first | exact rfl | done) | exact all0 | exact fun h => Bool.noConfusion h | exact fun _ _ _ _ => rfl | omega)
          intro aq haq bq hbq
          by_cases hltq : aq < k
          · exact if_pos hltq
          · obtain rfl : aq = k := by omega
            refine (if_neg hltq).trans ?_
            rw [Nat.sub_self]
            revert bq hbq
            refine all2 (congrArg iL km) (congrArg iL kq)
        · have hz2 : ¬ rest P2 (adT P1 P2 (k + 1)) (adB P1 P2 k) = 0 := fun h => hb (ky.trans h)
          have eB : adB P1 P2 k = adB P1 P2 (k + 1) := by rw [hB, if_neg (by omega)]
          have fB : AV.ov 4 2 (adB P1 P2 k) (n2 - adB P1 P2 k) = .ov 4 2 (adB P1 P2 (k + 1)) (n2 - adB P1 P2 (k + 1)) := by rw [← eB]
          clear hb
          refine ⟨k + 1, [0, 1, 2, 3, 4, 7], hinv, by omega, ?_⟩
          refine Sub.of ?_ ?_ ?_
          repeat' (first | ((first | (refine And.intro ?_ ?_) | exact trivial | exact fA | exact fB | exact rA | exact rB)) | (refine And.intro ?_ ?_) | exact trivial | exact fun _ _ _ => hsc _ _ | (exact congrArg intV (by first | with_reducible rfl | with_reducible assumption)) | exact (rfl : AV.idsLt _ _ = true) | exact (rfl : _ = AV.ren _ (.own _)) | exact (rfl : _ = AV.ren _ (.fn _ _)) | exact (rfl : _ = AV.ren _ (.gh _)) | (exact congrArg intV (by assumption)) | (refine congrArg intV ((wr_id (by omega) (by omega)).trans (by omega))) | exact rfl | (simp only [Int.toNat_natCast, Int.toNat_zero, Nat.sub_zero, Nat.zero_add]; first | exact rfl | done) | exact all0 | exact fun h => Bool.noConfusion h | exact fun _ _ _ _ => rfl | omega)
          intro aq haq bq hbq
          by_cases hltq : aq < k
          · exact if_pos hltq
          · obtain rfl : aq = k := by omega
            refine (if_neg hltq).trans ?_
            rw [Nat.sub_self]
            revert bq hbq
            refine all2 (congrArg iL km) (congrArg iL kq)
      · have hz1 : ¬ rest P1 (adT P1 P2 (k + 1)) (adA P1 P2 k) = 0 := fun h => hb (kx.trans h)
        have eA : adA P1 P2 k = adA P1 P2 (k + 1) := by rw [hA, if_neg (by omega)]
        have fA : AV.ov 3 2 (adA P1 P2 k) (n1 - adA P1 P2 k) = .ov 3 2 (adA P1 P2 (k + 1)) (n1 - adA P1 P2 (k + 1)) := by rw [← eA]
        clear hb
        dsimp only
        rw [if_pos rfl]
        conv => whnf
        repeat' (first
          | (refine NilG.mk fun bn hbn hbx => ?_; conv => whnf)
          | (refine Both.mk ?_ ?_ <;> conv => whnf)
          | exact trivial
          | (refine Br.mk (fun hb => ?_) (fun hb => ?_) <;> (first | (exfalso; revert hb; decide) | ((try simp only [BL] at hb) <;> (try simp only [DL] at hb) <;> conv => whnf)))
          | (refine And.intro ?_ ?_; (focus (first | exact id | exact rfl | exact trivial | (intro hg; first | exact hg | exact rfl | (simp; done) | (simp at hg ⊢; assumption)) | omega | decide | exact is2_c _ _ _ | exact is1_c _ _ | exact isS_c _ _ | exact isB_c _ _ | exact Nat.le_refl _ | assumption | exact mulLe (by decide) (by omega) | exact mulLe2 (by decide) (by omega) (by omega) | (intros; simp only [BL] at *; omega) | (intros; (try simp only [BL] at *); (try simp only [DL] at *); omega) | (intros; simp only [BL] at *; rw [wr_id (by omega) (by omega)]; omega) | (intro h1 h2; exact Bool.and_eq_true_iff.2 ⟨h1, h2⟩) | (intros; simp_all; done))); conv => whnf)
          | (refine Or.inr (And.intro rfl ?_); first | (refine congrArg intV ?_) | (refine congrArg boolV ?_) | (refine tupII ?_ ?_) | (refine tupIII ?_ ?_ ?_) | (refine tupU ?_ ?_ ?_ ?_ ?_) | exact rfl))
        · have hz2 : rest P2 (adT P1 P2 (k + 1)) (adB P1 P2 k) = 0 := ky.symm.trans hb
          have eB : adB P1 P2 k + 1 = adB P1 P2 (k + 1) := by rw [hB, if_pos (by omega)]
          have fB : AV.ov 4 2 (adB P1 P2 k + 1) (((n2 - adB P1 P2 k : Nat) : Int).toNat - 1) = .ov 4 2 (adB P1 P2 (k + 1)) (n2 - adB P1 P2 (k + 1)) := by
            rw [Int.toNat_natCast, ← eB]; rfl
          clear hb
          refine ⟨k + 1, [0, 1, 2, 3, 4, 7], hinv, by omega, ?_⟩
          refine Sub.of ?_ ?_ ?_
          repeat' (first | ((first | (refine And.intro ?_ ?_) | exact trivial | exact fA | exact fB | exact rA | exact rB)) | (refine And.intro ?_ ?_) | exact trivial | exact fun _ _ _ => hsc _ _ | (exact congrArg intV (by first | with_reducible rfl | with_reducible assumption)) | exact (rfl : AV.idsLt _ _ = true) | exact (rfl : _ = AV.ren _ (.own _)) | exact (rfl : _ = AV.ren _ (.fn _ _)) | exact (rfl : _ = AV.ren _ (.gh _)) | (exact congrArg intV (by assumption)) | (refine congrArg intV ((wr_id (by omega) (by omega)).trans (by omega))) | exact rfl | (simp only [Int.toNat_natCast, Int.toNat_zero, Nat.sub_zero, Nat.zero_add]; first | exact rfl | done) | exact all0 | exact fun h => Bool.noConfusion h | exact fun _ _ _ _ => rfl | omega)
          intro aq haq bq hbq
          by_cases hltq : aq < k
          · exact if_pos hltq
          · obtain rfl : aq = k := by omega
            refine (if_neg hltq).trans ?_
            rw [Nat.sub_self]
            revert bq hbq
            refine all2 (congrArg iL km) (congrArg iL kq)
        · have hz2 : ¬ rest P2 (adT P1 P2 (k + 1)) (adB P1 P2 k) = 0 := fun h => hb (ky.trans h)
          exfalso
          omega
    · have hd := hI.done hp1 hp2 (sa.trans sb.symm) (by omega)
      have bv1 := ka.2.2.2.1
      have bv2 := ka.2.2.2.2.1
      have bv3 := kb.2.2.2.1
      have bv4 := kb.2.2.2.2.1
      have t1 : ((max lo lo' - lo).toNat : Int) = max lo lo' - lo := by omega
      have t2 : ((max lo lo' - lo').toNat : Int) = max lo lo' - lo' := by omega
      have eV : IntKind.i64.wrap (v + S (ct p q (max lo lo' - lo)) n + (v' + S (ct p' q' (max lo lo' - lo')) n')) = cW v n p q (max lo lo' - lo).toNat + cW v' n' p' q' (max lo lo' - lo').toNat := by
        have x1 : cW v n p q (max lo lo' - lo).toNat = v + S (ct p q (max lo lo' - lo)) n := by unfold cW; rw [t1]
        have x2 : cW v' n' p' q' (max lo lo' - lo').toNat = v' + S (ct p' q' (max lo lo' - lo')) n' := by unfold cW; rw [t2]
        rw [← x1, ← x2]
        exact wr_id (by omega) (by omega)
      have hpk : ∀ i, i < k → 1 ≤ adP P1 P2 i ∧ adP P1 P2 i ≤ 2000000 := fun i hi => by
        obtain ⟨i1, i2, i3⟩ := hall i hi
        have g1 := (i1.step hp1 hp2 i2 i3).2
        have g2 := adT_s P1 P2 i
        have g3 := i1.la
        have g4 := ka.2.2.2.2.2.1 _ i2
        have g5 : S P1 (adA P1 P2 i + 1) = S P1 (adA P1 P2 i) + P1 (adA P1 P2 i) := rfl
        have g6 : adP P1 P2 i = adT P1 P2 (i + 1) - adT P1 P2 i := rfl
        omega
      have hsum : Sum2 lo v n p q lo' v' n' p' q' k (cW v n p q (max lo lo' - lo).toNat + cW v' n' p' q' (max lo lo' - lo').toNat) (adP P1 P2) (adQ P1 Q1 P2 Q2) := by
        refine ⟨hpk, by omega, ?_, fun m hm => ?_⟩
        · rw [adP_S, hd.2.2, sa]
        · have hm' : (m : Int) ≤ adT P1 P2 k := by rw [hd.2.2, sa]; omega
          have g1 := ad_val (q := Q1) (q' := Q2) hp1 hp2 k hall m (by omega) hm'
          rw [← va m hm, ← vb m hm]
          unfold cW at g1 ⊢
          omega
      refine CallG.mk (Fn.mono ((cxmadeJ (max lo lo') (cW v n p q (max lo lo' - lo).toNat + cW v' n' p' q' (max lo lo' - lo').toNat) k (adP P1 P2) (adQ P1 Q1 P2 Q2) (by omega) (fun i hi => by have := hpk i hi; omega)).le (Le.cons (Le1.refl _) (Le.cons (Le1.l (LLe.of_eq (congrArg iL eV))) (Le.cons (Le1.refl _) Le.nil)))) ?_)
      rintro obs r ⟨rfl, hr⟩
      rcases hr with ⟨g1, rfl⟩ | ⟨g1, rfl⟩
      · conv => whnf
        repeat' (first
          | (refine NilG.mk fun bn hbn hbx => ?_; conv => whnf)
          | (refine Both.mk ?_ ?_ <;> conv => whnf)
          | exact trivial
          | (refine Br.mk (fun hb => ?_) (fun hb => ?_) <;> (first | (exfalso; revert hb; decide) | ((try simp only [BL] at hb) <;> (try simp only [DL] at hb) <;> conv => whnf)))
          | (refine And.intro ?_ ?_; (focus (first | exact id | exact rfl | exact trivial | (intro hg; first | exact hg | exact rfl | (simp; done) | (simp at hg ⊢; assumption)) | omega | decide | exact is2_c _ _ _ | exact is1_c _ _ | exact isS_c _ _ | exact isB_c _ _ | exact Nat.le_refl _ | assumption | exact mulLe (by decide) (by omega) | exact mulLe2 (by decide) (by omega) (by omega) | (intros; simp only [BL] at *; omega) | (intros; (try simp only [BL] at *); (try simp only [DL] at *); omega) | (intros; simp only [BL] at *; rw [wr_id (by omega) (by omega)]; omega) | (intro h1 h2; exact Bool.and_eq_true_iff.2 ⟨h1, h2⟩) | (intros; simp_all; done))); conv => whnf)
          | (refine Or.inr (And.intro rfl ?_); first | (refine congrArg intV ?_) | (refine congrArg boolV ?_) | (refine tupII ?_ ?_) | (refine tupIII ?_ ?_ ?_) | (refine tupU ?_ ?_ ?_ ?_ ?_) | exact rfl))
        exact .inr ⟨rfl, .inr (.inr ⟨h0, hlh, k, _, _, _, hsum, rfl, .inl ⟨g1, rfl⟩⟩)⟩
      · conv => whnf
        repeat' (first
          | (refine NilG.mk fun bn hbn hbx => ?_; conv => whnf)
          | (refine Both.mk ?_ ?_ <;> conv => whnf)
          | exact trivial
          | (refine Br.mk (fun hb => ?_) (fun hb => ?_) <;> (first | (exfalso; revert hb; decide) | ((try simp only [BL] at hb) <;> (try simp only [DL] at hb) <;> conv => whnf)))
          | (refine And.intro ?_ ?_; (focus (first | exact id | exact rfl | exact trivial | (intro hg; first | exact hg | exact rfl | (simp; done) | (simp at hg ⊢; assumption)) | omega | decide | exact is2_c _ _ _ | exact is1_c _ _ | exact isS_c _ _ | exact isB_c _ _ | exact Nat.le_refl _ | assumption | exact mulLe (by decide) (by omega) | exact mulLe2 (by decide) (by omega) (by omega) | (intros; simp only [BL] at *; omega) | (intros; (try simp only [BL] at *); (try simp only [DL] at *); omega) | (intros; simp only [BL] at *; rw [wr_id (by omega) (by omega)]; omega) | (intro h1 h2; exact Bool.and_eq_true_iff.2 ⟨h1, h2⟩) | (intros; simp_all; done))); conv => whnf)
          | (refine Or.inr (And.intro rfl ?_); first | (refine congrArg intV ?_) | (refine congrArg boolV ?_) | (refine tupII ?_ ?_) | (refine tupIII ?_ ?_ ?_) | (refine tupU ?_ ?_ ?_ ?_ ?_) | exact rfl))
        exact .inr ⟨rfl, .inr (.inr ⟨h0, hlh, k, _, _, _, hsum, rfl, .inr ⟨g1, rfl⟩⟩)⟩
end Go.Proofs.Ytkkkldhilofgmaa
