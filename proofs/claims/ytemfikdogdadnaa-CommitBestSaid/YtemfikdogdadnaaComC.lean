/-
  The reference Cheapest: unit by unit from the generator whose next unit is cheapest.
-/
import Derived.Test.YtemfikdogdadnaaComS
import Derived.Test.YtemfikdogdadnaaBlkR
namespace Go.Proofs.Ytemfikdogdadnaa
open Go.RowKit

def gamC3 : Gam := fun f => match f with
  | 64 => some (sOi (fun _ n p q _ => okOff n p q) fun _ n p q x => intV (U p q n x))
  | 65 => some (sOi (fun _ n p q x => okOff n p q ∧ 0 ≤ x ∧ x ≤ 2000000) fun _ n p q x => intV (S (ct p q x) n))
  | _ => none
theorem gamC3_ok : GOk Try.prog gamC3 := fun f g h => by
  unfold gamC3 at h
  split at h
  · injection h with h; subst h; exact sOi_ok fun s n p q x hp => offUnit s n p q x hp
  · injection h with h; subst h; exact sOi_ok offCost3
  · cases h
/-- what a generator gives when T units above the least powers are taken -/
abbrev cX (u : Nat → CuR) (o : Nat → Bool) (n : Nat) (π : Nat → Nat) (T : Int) (k : Nat) : Int := bX (cM u o) (cP u o) n π T k (oN (cM u o) n)
theorem cX_b {u : Nat → CuR} {o : Nat → Bool} {n : Nat} {π : Nat → Nat} (hv : ∀ k, k < n → cuE (u k) = 0) (hq : Sorted (bSz (cM u o) (cQ u o) n) π (oN (cM u o) n)) {T : Int} (h0 : 0 ≤ T) (h1 : T ≤ S (cR u o) n) :
    S (cX u o n π T) n = T ∧ ∀ k, k < n → 0 ≤ cX u o n π T k ∧ cX u o n π T k ≤ cR u o k := by
  have hs := cBlks hv hq
  have e := cSum (o := o) hv
  obtain ⟨B, hB⟩ := hs.at h0 (by omega)
  refine ⟨bX_sum hs h0 (by omega), fun k hk => ?_⟩
  obtain ⟨J, r, f1, f2, _⟩ := hs.fill hB hk
  have hp := hs.pos k hk
  have g1 := S_mono (p := cP u o k) (i := 0) (j := J) (fun j hj => by have := hp j (by have := f1.le; omega); omega) (Nat.zero_le _)
  have g0 : S (cP u o k) 0 = 0 := rfl
  have g2 := f1.nn
  have g3 := cP_all (o := o) (hv k hk)
  show 0 ≤ bX (cM u o) (cP u o) n π T k (oN (cM u o) n) ∧ bX (cM u o) (cP u o) n π T k (oN (cM u o) n) ≤ _
  rw [f2]
  rcases Nat.eq_or_lt_of_le f1.le with e | hlt
  · have h5 := f1.end' e
    rw [e] at g1 ⊢
    omega
  · have h3 := S_step hp hlt (Nat.le_refl _)
    have h4 := f1.lt hlt
    omega
/-- the generator whose next unit is taken -/
theorem cX_next {u : Nat → CuR} {o : Nat → Bool} {n : Nat} {π : Nat → Nat} (hv : ∀ k, k < n → cuE (u k) = 0) (hq : Sorted (bSz (cM u o) (cQ u o) n) π (oN (cM u o) n)) {T : Int} (h0 : 0 ≤ T) (h1 : T < S (cR u o) n) :
    ∃ k0, k0 < n ∧ cX u o n π T k0 < cR u o k0 ∧ (∀ k, k < n → cX u o n π T k < cR u o k → U (u k0).p (u k0).q (u k0).m (cLo u o k0 + cX u o n π T k0) ≤ U (u k).p (u k).q (u k).m (cLo u o k + cX u o n π T k) ∧ (k < k0 → U (u k0).p (u k0).q (u k0).m (cLo u o k0 + cX u o n π T k0) < U (u k).p (u k).q (u k).m (cLo u o k + cX u o n π T k))) ∧
      ∀ k, cX u o n π (T + 1) k = cX u o n π T k + (if k0 = k then 1 else 0) := by
  have hs := cBlks hv hq
  have e := cSum (o := o) hv
  obtain ⟨B, hB⟩ := hs.at h0 (by omega)
  have hlt : B < oN (cM u o) n := by
    rcases Nat.eq_or_lt_of_le hB.le with e1 | h1
    · have h2 := hB.fin e1
      rw [e1, hs.cum_all] at h2
      omega
    · exact h1
  obtain ⟨o1, o2, o3⟩ := hs.next hB hlt
  obtain ⟨_, hb⟩ := cX_b hv hq h0 (by omega)
  have hcap : bSz (cM u o) (cQ u o) n (π B) ≤ 1000000 := (cbQ hv (hq.lt hlt)).2.1
  have hU := fun k (hk : k < n) => cU (o := o) (hv k hk) (hb k hk).1
  have hk0 : cX u o n π T (own (cM u o) n (π B)) < cR u o (own (cM u o) n (π B)) := by
    by_cases hh : cX u o n π T (own (cM u o) n (π B)) < cR u o (own (cM u o) n (π B))
    · exact hh
    · have := hU _ o1
      rw [if_neg hh, o2] at this
      omega
  have hk1 := hU _ o1
  rw [if_pos hk0, o2] at hk1
  refine ⟨_, o1, hk0, fun k hk hr => ?_, fun k => hs.step hB hlt k⟩
  have h2 := hU k hk
  rw [if_pos hr] at h2
  rw [← hk1, ← h2]
  exact o3 k hk
def chK (u : Nat → CuR) (o : Nat → Bool) (n : Nat) (π : Nat → Nat) (T : Int) (obs : List OB) (v : AV) : Prop :=
  obs = [] ∧ ∃ c, v = .tup [intV c, boolV (decide (0 ≤ T - S (cLo u o) n ∧ T - S (cLo u o) n ≤ S (cR u o) n))] ∧
    (0 ≤ T - S (cLo u o) n ∧ T - S (cLo u o) n ≤ S (cR u o) n → c = S (cC u fun k => cLo u o k + cX u o n π (T - S (cLo u o) n) k) n)
set_option maxHeartbeats 1000000 in
theorem cmCheap (u : Nat → CuR) (o : Nat → Bool) (n : Nat) (T : Int) (π : Nat → Nat) (hn : n ≤ 3) (hT : 0 ≤ T ∧ T ≤ 1000000) (hv : ∀ k, k < n → cuE (u k) = 0) (hq : Sorted (bSz (cM u o) (cQ u o) n) π (oN (cM u o) n)) :
    Fn Try.prog 32 [.c (.sl 13 n (cCu u)), .c (.sl 1 n (c1 fun k => if o k then 1 else 0)), intV T] (chK u o n π T) := by
  refine fn_of_wpx (O := lex) tab_ok gamC3_ok mixed Try.func32 (by kernel_rfl) rfl rfl rfl (by simp [Try.ntmps32]) (by kernel_rfl) ?_
  conv => whnf
  repeat' (first
    | (refine NilG.mk fun bn hbn hbx => ?_; conv => whnf)
    | (refine Both.mk ?_ ?_ <;> conv => whnf)
    | ((first | (refine MkG.box 1 rfl rfl rfl (by decide) ?_) | (refine MkG.box 2 rfl rfl rfl (by decide) ?_) | (refine MkG.box 3 rfl rfl rfl (by decide) ?_) | (refine MkG.row ?_)); conv => whnf)
    | exact trivial
    | (refine Br.mk (fun hb => ?_) (fun hb => ?_) <;> (first | (exfalso; revert hb; decide) | ((try simp only [BL] at hb) <;> (try simp only [DL] at hb) <;> conv => whnf)))
    | (refine And.intro ?_ ?_; (focus (first | exact id | exact rfl | exact trivial | (intro hg; first | exact hg | exact rfl | (simp; done) | (simp at hg ⊢; assumption)) | omega | decide | exact is2_c _ _ _ | exact is1_c _ _ | exact isS_c _ _ | exact isB_c _ _ | exact Nat.le_refl _ | assumption | exact mulLe (by decide) (by omega) | exact mulLe2 (by decide) (by omega) (by omega) | (intros; simp only [BL] at *; omega) | (intros; (try simp only [BL] at *); (try simp only [DL] at *); omega) | (intros; simp only [BL] at *; rw [wr_id (by omega) (by omega)]; omega) | (intro h1 h2; exact Bool.and_eq_true_iff.2 ⟨h1, h2⟩) | (intros; simp_all; done))); conv => whnf)
    | (refine Or.inr (And.intro rfl ?_); first | (refine congrArg intV ?_) | (refine congrArg boolV ?_) | (refine tupII ?_ ?_) | (refine tupIII ?_ ?_ ?_) | (refine tupU ?_ ?_ ?_ ?_ ?_) | exact rfl))
  refine sem_loop tab_ok gamC3_ok mixed (by kernel_rfl) (O := lex) (fun i : Nat => ⟨[(0, .c (.sl 13 n (cCu u))), (1, .c (.sl 1 n (c1 fun k => if o k then 1 else 0))), (2, intV T), (8, .own 0), (9, intV (S (cLo u o) i)), (21, .c (.sl 13 n (cCu u))), (22, intV n), (23, intV i)], [.row 3 1 n false (c1 fun k => if k < i then cLo u o k else 0)]⟩) (fun i => i ≤ n) (fun i => n - i) ⟨0, [?_], Nat.zero_le _, ?_⟩ fun i hi => ?_
  rotate_left 1
  · refine Sub.of ?_ ?_ ?_
    repeat' (first | (refine And.intro ?_ ?_) | exact trivial | exact fun _ _ _ => hsc _ _ | (exact congrArg intV (by first | with_reducible rfl | with_reducible assumption)) | exact (rfl : AV.idsLt _ _ = true) | exact (rfl : _ = AV.ren _ (.own _)) | exact (rfl : _ = AV.ren _ (.fn _ _)) | exact (rfl : _ = AV.ren _ (.gh _)) | (exact congrArg intV (by assumption)) | (refine congrArg intV ((wr_id (by omega) (by omega)).trans (by omega))) | exact rfl | (simp only [Int.toNat_natCast, Int.toNat_zero, Nat.sub_zero, Nat.zero_add]; first | exact rfl | done) | exact all0 | exact fun h => Bool.noConfusion h | exact fun _ _ _ _ => rfl | omega)
    · intro a ha b hb1
      have hb1 : b < 1 := hb1
      obtain rfl : b = 0 := by omega
      show iL 0 = iL (if a < 0 then cLo u o a else 0)
      rw [if_neg (Nat.not_lt_zero _)]
  have hcr := fun k (hk : k ≤ n) => cR_b (o := o) hv hk
  conv => whnf
  repeat' (first
    | (refine NilG.mk fun bn hbn hbx => ?_; conv => whnf)
    | (refine Both.mk ?_ ?_ <;> conv => whnf)
    | ((first | (refine MkG.box 1 rfl rfl rfl (by decide) ?_) | (refine MkG.box 2 rfl rfl rfl (by decide) ?_) | (refine MkG.box 3 rfl rfl rfl (by decide) ?_) | (refine MkG.row ?_)); conv => whnf)
    | exact trivial
    | (refine Br.mk (fun hb => ?_) (fun hb => ?_) <;> (first | (exfalso; revert hb; decide) | ((try simp only [BL] at hb) <;> (try simp only [DL] at hb) <;> conv => whnf)))
    | (refine And.intro ?_ ?_; (focus (first | exact id | exact rfl | exact trivial | (intro hg; first | exact hg | exact rfl | (simp; done) | (simp at hg ⊢; assumption)) | omega | decide | exact is2_c _ _ _ | exact is1_c _ _ | exact isS_c _ _ | exact isB_c _ _ | exact Nat.le_refl _ | assumption | exact mulLe (by decide) (by omega) | exact mulLe2 (by decide) (by omega) (by omega) | (intros; simp only [BL] at *; omega) | (intros; (try simp only [BL] at *); (try simp only [DL] at *); omega) | (intros; simp only [BL] at *; rw [wr_id (by omega) (by omega)]; omega) | (intro h1 h2; exact Bool.and_eq_true_iff.2 ⟨h1, h2⟩) | (intros; simp_all; done))); conv => whnf)
    | (refine Or.inr (And.intro rfl ?_); first | (refine congrArg intV ?_) | (refine congrArg boolV ?_) | (refine tupII ?_ ?_) | (refine tupIII ?_ ?_ ?_) | (refine tupU ?_ ?_ ?_ ?_ ?_) | exact rfl))
  · have hin : i < n := by omega
    have hoi : o i = true := by
      cases h9 : o i with
      | true => rfl
      | false => rw [h9] at hb; exact absurd hb (by decide)
    clear hb
    have eL : cLo u o i = (u i).r.le := by unfold cLo; rw [if_pos hoi]
    have hcr0 := hcr i hi
    have hcr1 := hcr (i + 1) hin
    have hS1 : S (cLo u o) (i + 1) = S (cLo u o) i + (u i).r.le := by rw [← eL]; rfl
    have e1 : IntKind.i64.wrap (S (cLo u o) i + (u i).r.le) = S (cLo u o) (i + 1) := by
      rw [hS1]
      exact wr_id (by omega) (by omega)
    refine ⟨i + 1, [?_], by omega, by omega, ?_⟩
    rotate_left 1
    refine Sub.of ?_ ?_ ?_
    repeat' (first | (refine And.intro ?_ ?_) | exact trivial | exact fun _ _ _ => hsc _ _ | (exact congrArg intV (by first | with_reducible rfl | with_reducible assumption)) | exact (rfl : AV.idsLt _ _ = true) | exact (rfl : _ = AV.ren _ (.own _)) | exact (rfl : _ = AV.ren _ (.fn _ _)) | exact (rfl : _ = AV.ren _ (.gh _)) | (exact congrArg intV (by assumption)) | (refine congrArg intV ((wr_id (by omega) (by omega)).trans (by omega))) | exact rfl | (simp only [Int.toNat_natCast, Int.toNat_zero, Nat.sub_zero, Nat.zero_add]; first | exact rfl | done) | exact all0 | exact fun h => Bool.noConfusion h | exact fun _ _ _ _ => rfl | omega)
    intro a ha b hb1
    obtain rfl : b = 0 := by omega
    show (if a = i then iL (u i).r.le else iL (if a < i then cLo u o a else 0)) = iL (if a < i + 1 then cLo u o a else 0)
    by_cases h : a = i
    · rw [if_pos h, if_pos (show a < i + 1 by omega), h, eL]
    · rw [if_neg h]
      by_cases h2 : a < i
      · rw [if_pos h2, if_pos (show a < i + 1 by omega)]
      · rw [if_neg h2, if_neg (by omega)]
  · have hin : i < n := by omega
    have hoi : o i = false := by
      cases h9 : o i with
      | false => rfl
      | true => rw [h9] at hb; exact absurd rfl hb
    clear hb
    have eL : cLo u o i = 0 := (cM_off (u := u) hoi).2
    have e1 : S (cLo u o) i = S (cLo u o) (i + 1) := by
      show _ = S (cLo u o) i + cLo u o i
      omega
    refine ⟨i + 1, [?_], by omega, by omega, ?_⟩
    rotate_left 1
    refine Sub.of ?_ ?_ ?_
    repeat' (first | (refine And.intro ?_ ?_) | exact trivial | exact fun _ _ _ => hsc _ _ | (exact congrArg intV (by first | with_reducible rfl | with_reducible assumption)) | exact (rfl : AV.idsLt _ _ = true) | exact (rfl : _ = AV.ren _ (.own _)) | exact (rfl : _ = AV.ren _ (.fn _ _)) | exact (rfl : _ = AV.ren _ (.gh _)) | (exact congrArg intV (by assumption)) | (refine congrArg intV ((wr_id (by omega) (by omega)).trans (by omega))) | exact rfl | (simp only [Int.toNat_natCast, Int.toNat_zero, Nat.sub_zero, Nat.zero_add]; first | exact rfl | done) | exact all0 | exact fun h => Bool.noConfusion h | exact fun _ _ _ _ => rfl | omega)
    intro a ha b hb1
    obtain rfl : b = 0 := by omega
    show iL (if a < i then cLo u o a else 0) = iL (if a < i + 1 then cLo u o a else 0)
    by_cases h2 : a < i
    · rw [if_pos h2, if_pos (show a < i + 1 by omega)]
    · rw [if_neg h2]
      by_cases h : a = i
      · rw [if_pos (by omega), h, eL]
      · rw [if_neg (by omega)]
  obtain rfl : i = n := by omega
  have hX0 : ∀ k, cX u o i π 0 k = 0 := fun k => (cBlks hv hq).none k
  have e0 : S (cLo u o) i = S (cLo u o) i + ((0 : Nat) : Int) := (Int.add_zero _).symm
  refine sem_loop tab_ok gamC3_ok mixed (by kernel_rfl) (O := lex) (fun t : Nat => ⟨[(0, .c (.sl 13 i (cCu u))), (1, .c (.sl 1 i (c1 fun k => if o k then 1 else 0))), (2, intV T), (8, .own 0), (9, intV (S (cLo u o) i + t))], [.row 3 1 i false (c1 fun k => cLo u o k + cX u o i π t k)]⟩) (fun t => (t : Int) ≤ S (cR u o) i ∧ (t = 0 ∨ S (cLo u o) i + t ≤ T)) (fun t => (S (cR u o) i).toNat - t) ⟨0, [?_], ⟨(hcr i hi).1, .inl rfl⟩, ?_⟩ fun t ht => ?_
  rotate_left 1
  · refine Sub.of ?_ ?_ ?_
    repeat' (first | (refine And.intro ?_ ?_) | exact trivial | exact fun _ _ _ => hsc _ _ | (exact congrArg intV (by first | with_reducible rfl | with_reducible assumption)) | exact (rfl : AV.idsLt _ _ = true) | exact (rfl : _ = AV.ren _ (.own _)) | exact (rfl : _ = AV.ren _ (.fn _ _)) | exact (rfl : _ = AV.ren _ (.gh _)) | (exact congrArg intV (by assumption)) | (refine congrArg intV ((wr_id (by omega) (by omega)).trans (by omega))) | exact rfl | (simp only [Int.toNat_natCast, Int.toNat_zero, Nat.sub_zero, Nat.zero_add]; first | exact rfl | done) | exact all0 | exact fun h => Bool.noConfusion h | exact fun _ _ _ _ => rfl | omega)
    · intro a ha b hb1
      obtain rfl : b = 0 := by omega
      show iL (if a < i then cLo u o a else 0) = iL (cLo u o a + cX u o i π ((0 : Nat) : Int) a)
      rw [if_pos ha, show ((0 : Nat) : Int) = 0 from rfl, hX0, Int.add_zero]
  clear e0
  obtain ⟨hXs, hXb⟩ := cX_b hv hq (T := t) (by omega) ht.1
  have hcri := hcr i hi
  conv => whnf
  repeat' (first
    | (refine NilG.mk fun bn hbn hbx => ?_; conv => whnf)
    | (refine Both.mk ?_ ?_ <;> conv => whnf)
    | ((first | (refine MkG.box 1 rfl rfl rfl (by decide) ?_) | (refine MkG.box 2 rfl rfl rfl (by decide) ?_) | (refine MkG.box 3 rfl rfl rfl (by decide) ?_) | (refine MkG.row ?_)); conv => whnf)
    | exact trivial
    | (refine Br.mk (fun hb => ?_) (fun hb => ?_) <;> (first | (exfalso; revert hb; decide) | ((try simp only [BL] at hb) <;> (try simp only [DL] at hb) <;> conv => whnf)))
    | (refine And.intro ?_ ?_; (focus (first | exact id | exact rfl | exact trivial | (intro hg; first | exact hg | exact rfl | (simp; done) | (simp at hg ⊢; assumption)) | omega | decide | exact is2_c _ _ _ | exact is1_c _ _ | exact isS_c _ _ | exact isB_c _ _ | exact Nat.le_refl _ | assumption | exact mulLe (by decide) (by omega) | exact mulLe2 (by decide) (by omega) (by omega) | (intros; simp only [BL] at *; omega) | (intros; (try simp only [BL] at *); (try simp only [DL] at *); omega) | (intros; simp only [BL] at *; rw [wr_id (by omega) (by omega)]; omega) | (intro h1 h2; exact Bool.and_eq_true_iff.2 ⟨h1, h2⟩) | (intros; simp_all; done))); conv => whnf)
    | (refine Or.inr (And.intro rfl ?_); first | (refine congrArg intV ?_) | (refine congrArg boolV ?_) | (refine tupII ?_ ?_) | (refine tupIII ?_ ?_ ?_) | (refine tupU ?_ ?_ ?_ ?_ ?_) | exact rfl))
  · have htT : S (cLo u o) i + t < T := hb
    clear hb
    have hR : ∀ k, k < i → (((if o k = true then (1 : Int) else 0) = 1 ∧ cLo u o k + cX u o i π t k < (u k).r.mo) ↔ cX u o i π t k < cR u o k) := fun k hk => by
      have h1 := hXb k hk
      cases h9 : o k with
      | true =>
        have eL : cLo u o k = (u k).r.le := by unfold cLo; rw [if_pos h9]
        have eR : cR u o k = (u k).r.mo - (u k).r.le := by unfold cR cHi cLo; rw [if_pos h9, if_pos h9]
        rw [eL, eR]
        refine ⟨fun h => ?_, fun h => ⟨rfl, by omega⟩⟩
        have := h.2
        omega
      | false =>
        have eR : cR u o k = 0 := by unfold cR cHi cLo; rw [h9]; rfl
        rw [eR] at h1 ⊢
        refine ⟨fun h => ?_, fun h => ?_⟩
        · exact absurd h.1 (by decide)
        · omega
    generalize hf : (fun k => U (u k).p (u k).q (u k).m (cLo u o k + cX u o i π t k)) = f
    have hfk : ∀ k, U (u k).p (u k).q (u k).m (cLo u o k + cX u o i π t k) = f k := fun k => by rw [← hf]
    refine sem_loop tab_ok gamC3_ok mixed (by kernel_rfl) (O := lex) (fun j : Nat => ⟨[(0, .c (.sl 13 i (cCu u))), (1, .c (.sl 1 i (c1 fun k => if o k then 1 else 0))), (2, intV T), (8, .own 0), (9, intV (S (cLo u o) i + t)), (12, intV (amC (fun k => cX u o i π t k < cR u o k) f j)), (48, .c (.sl 13 i (cCu u))), (49, intV i), (50, intV j)], [.row 3 1 i false (c1 fun k => cLo u o k + cX u o i π t k)]⟩) (fun j => j ≤ i) (fun j => i - j) ⟨0, [?_], Nat.zero_le _, ?_⟩ fun j hj => ?_
    rotate_left 1
    · refine Sub.of ?_ ?_ ?_
      repeat' (first | (refine And.intro ?_ ?_) | exact trivial | exact fun _ _ _ => hsc _ _ | (exact congrArg intV (by first | with_reducible rfl | with_reducible assumption)) | exact (rfl : AV.idsLt _ _ = true) | exact (rfl : _ = AV.ren _ (.own _)) | exact (rfl : _ = AV.ren _ (.fn _ _)) | exact (rfl : _ = AV.ren _ (.gh _)) | (exact congrArg intV (by assumption)) | (refine congrArg intV ((wr_id (by omega) (by omega)).trans (by omega))) | exact rfl | (simp only [Int.toNat_natCast, Int.toNat_zero, Nat.sub_zero, Nat.zero_add]; first | exact rfl | done) | exact all0 | exact fun h => Bool.noConfusion h | exact fun _ _ _ _ => rfl | omega)
    have ham := amC_b (fun k => cX u o i π t k < cR u o k) f j
    conv => whnf
    repeat' (first
      | (refine NilG.mk fun bn hbn hbx => ?_; conv => whnf)
      | (refine Both.mk ?_ ?_ <;> conv => whnf)
      | ((first | (refine MkG.box 1 rfl rfl rfl (by decide) ?_) | (refine MkG.box 2 rfl rfl rfl (by decide) ?_) | (refine MkG.box 3 rfl rfl rfl (by decide) ?_) | (refine MkG.row ?_)); conv => whnf)
      | exact trivial
      | (refine Br.mk (fun hb => ?_) (fun hb => ?_) <;> (first | (exfalso; revert hb; decide) | ((try simp only [BL] at hb) <;> (try simp only [DL] at hb) <;> conv => whnf)))
      | (refine And.intro ?_ ?_; (focus (first | exact id | exact rfl | exact trivial | (intro hg; first | exact hg | exact rfl | (simp; done) | (simp at hg ⊢; assumption)) | omega | decide | exact is2_c _ _ _ | exact is1_c _ _ | exact isS_c _ _ | exact isB_c _ _ | exact Nat.le_refl _ | assumption | exact mulLe (by decide) (by omega) | exact mulLe2 (by decide) (by omega) (by omega) | (intros; simp only [BL] at *; omega) | (intros; (try simp only [BL] at *); (try simp only [DL] at *); omega) | (intros; simp only [BL] at *; rw [wr_id (by omega) (by omega)]; omega) | (intro h1 h2; exact Bool.and_eq_true_iff.2 ⟨h1, h2⟩) | first | exact ⟨is2_c _ _ _, (cuE_zero (hv _ (by omega))).2.2.2.1⟩ | exact fun _ => ⟨is2_c _ _ _, (cuE_zero (hv _ (by omega))).2.2.2.1⟩ | (intros; simp_all; done))); conv => whnf)
      | (refine Or.inr (And.intro rfl ?_); first | (refine congrArg intV ?_) | (refine congrArg boolV ?_) | (refine tupII ?_ ?_) | (refine tupIII ?_ ?_ ?_) | (refine tupU ?_ ?_ ?_ ?_ ?_) | exact rfl))
    · have hji : j < i := by omega
      have e1 : (j : Int) = amC (fun k => cX u o i π t k < cR u o k) f (j + 1) := by
        simp only [amC]
        rw [if_pos]
        refine ⟨(hR j hji).1 hb.1, ?_⟩
        rw [← hfk, ← hfk]
        exact hb.2
      refine ⟨j + 1, [?_], by omega, by omega, ?_⟩
      rotate_left 1
      refine Sub.of ?_ ?_ ?_
      repeat' (first | (refine And.intro ?_ ?_) | exact trivial | exact fun _ _ _ => hsc _ _ | (exact congrArg intV (by first | with_reducible rfl | with_reducible assumption)) | exact (rfl : AV.idsLt _ _ = true) | exact (rfl : _ = AV.ren _ (.own _)) | exact (rfl : _ = AV.ren _ (.fn _ _)) | exact (rfl : _ = AV.ren _ (.gh _)) | (exact congrArg intV (by assumption)) | (refine congrArg intV ((wr_id (by omega) (by omega)).trans (by omega))) | exact rfl | (simp only [Int.toNat_natCast, Int.toNat_zero, Nat.sub_zero, Nat.zero_add]; first | exact rfl | done) | exact all0 | exact fun h => Bool.noConfusion h | exact fun _ _ _ _ => rfl | omega)
    · have hji : j < i := by omega
      have e1 : amC (fun k => cX u o i π t k < cR u o k) f j = amC (fun k => cX u o i π t k < cR u o k) f (j + 1) := by
        simp only [amC]
        rw [if_neg]
        rintro ⟨h1, h2⟩
        have h3 := (hR j hji).2 h1
        rw [← hfk, ← hfk] at h2
        rcases hb with hb | hb
        · rcases hb with hb | hb
          · exact hb h3.1
          · exact hb h3.2
        · rcases h2 with h2 | h2
          · exact hb.1 h2
          · exact hb.2 h2
      refine ⟨j + 1, [?_], by omega, by omega, ?_⟩
      rotate_left 1
      refine Sub.of ?_ ?_ ?_
      repeat' (first | (refine And.intro ?_ ?_) | exact trivial | exact fun _ _ _ => hsc _ _ | (exact congrArg intV (by first | with_reducible rfl | with_reducible assumption)) | exact (rfl : AV.idsLt _ _ = true) | exact (rfl : _ = AV.ren _ (.own _)) | exact (rfl : _ = AV.ren _ (.fn _ _)) | exact (rfl : _ = AV.ren _ (.gh _)) | (exact congrArg intV (by assumption)) | (refine congrArg intV ((wr_id (by omega) (by omega)).trans (by omega))) | exact rfl | (simp only [Int.toNat_natCast, Int.toNat_zero, Nat.sub_zero, Nat.zero_add]; first | exact rfl | done) | exact all0 | exact fun h => Bool.noConfusion h | exact fun _ _ _ _ => rfl | omega)
    · obtain rfl : j = i := by omega
      refine .inr ⟨rfl, 0, ?_, fun hh => ?_⟩
      · rw [show decide (0 ≤ T - S (cLo u o) j ∧ T - S (cLo u o) j ≤ S (cR u o) j) = false from ?_]
        · rfl
        · refine decide_eq_false fun hh => ?_
          obtain ⟨k0, h1, h2, h3, _⟩ := cX_next hv hq (T := t) (by omega) (by omega)
          have := amC_eq (R := fun k => cX u o j π t k < cR u o k) (f := f) h2 (fun k hk hr => by rw [← hfk, ← hfk]; exact h3 k hk hr) h1
          omega
      · exfalso
        obtain ⟨k0, h1, h2, h3, _⟩ := cX_next hv hq (T := t) (by omega) (by omega)
        have := amC_eq (R := fun k => cX u o j π t k < cR u o k) (f := f) h2 (fun k hk hr => by rw [← hfk, ← hfk]; exact h3 k hk hr) h1
        omega
    · obtain rfl : j = i := by omega
      have htR : (t : Int) < S (cR u o) j := by
        rcases Int.lt_or_le (t : Int) (S (cR u o) j) with h | h
        · exact h
        · exfalso
          have h1 : S (fun k => cR u o k - cX u o j π t k) j = 0 := by
            have := S_plus2 (fun k => cR u o k - cX u o j π t k) (fun k => cX u o j π t k) j
            rw [S_congr (f := fun i => (cR u o i - cX u o j π t i) + cX u o j π t i) (g := cR u o) fun k _ => by omega] at this
            have e : S (fun k => cX u o j π t k) j = t := hXs
            omega
          have h2 := S_nil (f := fun k => cR u o k - cX u o j π t k) (fun k hk => by have := hXb k hk; omega) h1
          have := amC_none (R := fun k => cX u o j π t k < cR u o k) (f := f) (n := j) fun k hk hh => by have := h2 k hk; omega
          omega
      obtain ⟨k0, g1, g2, g3, g4⟩ := cX_next hv hq (T := t) (by omega) htR
      have ha0 := amC_eq (R := fun k => cX u o j π t k < cR u o k) (f := f) g2 (fun k hk hr => by rw [← hfk, ← hfk]; exact g3 k hk hr) g1
      have hlo := cLH (o := o) (hv k0 g1)
      have hxk := hXb k0 g1
      have e1 : IntKind.i64.wrap (S (cLo u o) j + t + 1) = S (cLo u o) j + ((t + 1 : Nat) : Int) := by
        rw [wr_id (by omega) (by omega)]
        omega
      generalize amC (fun k => cX u o j π t k < cR u o k) f j = A at *
      subst ha0
      conv => whnf
      repeat' (first
        | (refine NilG.mk fun bn hbn hbx => ?_; conv => whnf)
        | (refine Both.mk ?_ ?_ <;> conv => whnf)
        | ((first | (refine MkG.box 1 rfl rfl rfl (by decide) ?_) | (refine MkG.box 2 rfl rfl rfl (by decide) ?_) | (refine MkG.box 3 rfl rfl rfl (by decide) ?_) | (refine MkG.row ?_)); conv => whnf)
        | exact trivial
        | (refine Br.mk (fun hb => ?_) (fun hb => ?_) <;> (first | (exfalso; revert hb; decide) | ((try simp only [BL] at hb) <;> (try simp only [DL] at hb) <;> conv => whnf)))
        | (refine And.intro ?_ ?_; (focus (first | exact id | exact rfl | exact trivial | (intro hg; first | exact hg | exact rfl | (simp; done) | (simp at hg ⊢; assumption)) | omega | decide | exact is2_c _ _ _ | exact is1_c _ _ | exact isS_c _ _ | exact isB_c _ _ | exact Nat.le_refl _ | assumption | exact mulLe (by decide) (by omega) | exact mulLe2 (by decide) (by omega) (by omega) | (intros; simp only [BL] at *; omega) | (intros; (try simp only [BL] at *); (try simp only [DL] at *); omega) | (intros; simp only [BL] at *; rw [wr_id (by omega) (by omega)]; omega) | (intro h1 h2; exact Bool.and_eq_true_iff.2 ⟨h1, h2⟩) | (intros; simp_all; done))); conv => whnf)
        | (refine Or.inr (And.intro rfl ?_); first | (refine congrArg intV ?_) | (refine congrArg boolV ?_) | (refine tupII ?_ ?_) | (refine tupIII ?_ ?_ ?_) | (refine tupU ?_ ?_ ?_ ?_ ?_) | exact rfl))
      refine ⟨t + 1, [?_], ⟨by omega, .inr (by omega)⟩, by omega, ?_⟩
      rotate_left 1
      refine Sub.of ?_ ?_ ?_
      repeat' (first | (refine And.intro ?_ ?_) | exact trivial | exact fun _ _ _ => hsc _ _ | (exact congrArg intV (by first | with_reducible rfl | with_reducible assumption)) | exact (rfl : AV.idsLt _ _ = true) | exact (rfl : _ = AV.ren _ (.own _)) | exact (rfl : _ = AV.ren _ (.fn _ _)) | exact (rfl : _ = AV.ren _ (.gh _)) | (exact congrArg intV (by assumption)) | (refine congrArg intV ((wr_id (by omega) (by omega)).trans (by omega))) | exact rfl | (simp only [Int.toNat_natCast, Int.toNat_zero, Nat.sub_zero, Nat.zero_add]; first | exact rfl | done) | exact all0 | exact fun h => Bool.noConfusion h | exact fun _ _ _ _ => rfl | omega)
      intro a ha b hb1
      obtain rfl : b = 0 := by omega
      show (if a = k0 then iL (IntKind.i64.wrap (cLo u o k0 + cX u o j π t k0 + 1)) else iL (cLo u o a + cX u o j π t a)) = iL (cLo u o a + cX u o j π ((t + 1 : Nat) : Int) a)
      rw [Int.natCast_succ, g4 a]
      by_cases h : a = k0
      · rw [if_pos h, if_pos h.symm, h, wr_id (by unfold cR at hxk; omega) (by unfold cR at hxk; omega), Int.add_assoc]
      · have e9 : (if k0 = a then (1 : Int) else 0) = 0 := if_neg (fun e => h e.symm)
        rw [if_neg h, e9, Int.add_zero]
  have hts : S (cLo u o) i + t = T ∨ T < S (cLo u o) i ∧ t = 0 := by omega
  clear hb
  have hcx := fun k (hk : k < i) => cLH (o := o) (hv k hk)
  have hCb := fun k (hk : k ≤ i) => cC_b hv (fun k => cLo u o k + cX u o i π t k) hk
  refine sem_loop tab_ok gamC3_ok mixed (by kernel_rfl) (O := lex) (fun j : Nat => ⟨[(2, intV T), (8, .own 0), (9, intV (S (cLo u o) i + t)), (15, intV (S (cC u fun k => cLo u o k + cX u o i π t k) j)), (106, .c (.sl 13 i (cCu u))), (107, intV i), (108, intV j)], [.row 3 1 i false (c1 fun k => cLo u o k + cX u o i π t k)]⟩) (fun j => j ≤ i) (fun j => i - j) ⟨0, [?_], Nat.zero_le _, ?_⟩ fun j hj => ?_
  rotate_left 1
  · refine Sub.of ?_ ?_ ?_
    repeat' (first | (refine And.intro ?_ ?_) | exact trivial | exact fun _ _ _ => hsc _ _ | (exact congrArg intV (by first | with_reducible rfl | with_reducible assumption)) | exact (rfl : AV.idsLt _ _ = true) | exact (rfl : _ = AV.ren _ (.own _)) | exact (rfl : _ = AV.ren _ (.fn _ _)) | exact (rfl : _ = AV.ren _ (.gh _)) | (exact congrArg intV (by assumption)) | (refine congrArg intV ((wr_id (by omega) (by omega)).trans (by omega))) | exact rfl | (simp only [Int.toNat_natCast, Int.toNat_zero, Nat.sub_zero, Nat.zero_add]; first | exact rfl | done) | exact all0 | exact fun h => Bool.noConfusion h | exact fun _ _ _ _ => rfl | omega)
  have hcj := fun (h : j < i) => (cuE_zero (hv j h)).2.2.2.1
  have hj2 : ∀ h : j < i, 0 ≤ cLo u o j + cX u o i π t j ∧ cLo u o j + cX u o i π t j ≤ 2000000 := fun h => by
    have h1 := hcx j h
    have h2 := hXb j h
    unfold cR at h2
    omega
  have ec : j < i → IntKind.i64.wrap (S (cC u fun k => cLo u o k + cX u o i π t k) j + S (ct (u j).p (u j).q (cLo u o j + cX u o i π t j)) (u j).m) = S (cC u fun k => cLo u o k + cX u o i π t k) (j + 1) := fun h => by
    have k1 := hCb (j + 1) h
    have k3 : S (cC u fun k => cLo u o k + cX u o i π t k) (j + 1) = S (cC u fun k => cLo u o k + cX u o i π t k) j + S (ct (u j).p (u j).q (cLo u o j + cX u o i π t j)) (u j).m := rfl
    rw [k3] at k1 ⊢
    exact wr_id (by omega) (by omega)
  conv => whnf
  repeat' (first
    | (refine NilG.mk fun bn hbn hbx => ?_; conv => whnf)
    | (refine Both.mk ?_ ?_ <;> conv => whnf)
    | ((first | (refine MkG.box 1 rfl rfl rfl (by decide) ?_) | (refine MkG.box 2 rfl rfl rfl (by decide) ?_) | (refine MkG.box 3 rfl rfl rfl (by decide) ?_) | (refine MkG.row ?_)); conv => whnf)
    | exact trivial
    | (refine Br.mk (fun hb => ?_) (fun hb => ?_) <;> (first | (exfalso; revert hb; decide) | ((try simp only [BL] at hb) <;> (try simp only [DL] at hb) <;> conv => whnf)))
    | (refine And.intro ?_ ?_; (focus (first | exact id | exact rfl | exact trivial | (intro hg; first | exact hg | exact rfl | (simp; done) | (simp at hg ⊢; assumption)) | omega | decide | exact is2_c _ _ _ | exact is1_c _ _ | exact isS_c _ _ | exact isB_c _ _ | exact Nat.le_refl _ | assumption | exact mulLe (by decide) (by omega) | exact mulLe2 (by decide) (by omega) (by omega) | (intros; simp only [BL] at *; omega) | (intros; (try simp only [BL] at *); (try simp only [DL] at *); omega) | (intros; simp only [BL] at *; rw [wr_id (by omega) (by omega)]; omega) | (intro h1 h2; exact Bool.and_eq_true_iff.2 ⟨h1, h2⟩) | exact ⟨is2_c _ _ _, hcj (by omega), (hj2 (by omega)).1, (hj2 (by omega)).2⟩ | (intros; simp_all; done))); conv => whnf)
    | (refine Or.inr (And.intro rfl ?_); first | (refine congrArg intV ?_) | (refine congrArg boolV ?_) | (refine tupII ?_ ?_) | (refine tupIII ?_ ?_ ?_) | (refine tupU ?_ ?_ ?_ ?_ ?_) | exact rfl))
  · have ec := ec (by omega)
    refine ⟨j + 1, [?_], by omega, by omega, ?_⟩
    rotate_left 1
    refine Sub.of ?_ ?_ ?_
    repeat' (first | (refine And.intro ?_ ?_) | exact trivial | exact fun _ _ _ => hsc _ _ | (exact congrArg intV (by first | with_reducible rfl | with_reducible assumption)) | exact (rfl : AV.idsLt _ _ = true) | exact (rfl : _ = AV.ren _ (.own _)) | exact (rfl : _ = AV.ren _ (.fn _ _)) | exact (rfl : _ = AV.ren _ (.gh _)) | (exact congrArg intV (by assumption)) | (refine congrArg intV ((wr_id (by omega) (by omega)).trans (by omega))) | exact rfl | (simp only [Int.toNat_natCast, Int.toNat_zero, Nat.sub_zero, Nat.zero_add]; first | exact rfl | done) | exact all0 | exact fun h => Bool.noConfusion h | exact fun _ _ _ _ => rfl | omega)
  · obtain rfl : j = i := by omega
    refine .inr ⟨rfl, S (cC u fun k => cLo u o k + cX u o j π t k) j, ?_, fun hh => ?_⟩
    · have e9 : (S (cLo u o) j + (t : Int) == T) = decide (0 ≤ T - S (cLo u o) j ∧ T - S (cLo u o) j ≤ S (cR u o) j) := by
        rw [Bool.eq_iff_iff]
        simp only [beq_iff_eq, decide_eq_true_eq]
        omega
      rw [← e9]
      rfl
    · rw [show (t : Int) = T - S (cLo u o) j by omega]
end Go.Proofs.Ytemfikdogdadnaa
