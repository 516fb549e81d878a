/-
  The package reserve: blocks, Best.
-/
import Derived.Test.YtdakikgebfphmaaRbR
import Derived.Test.YtdakikgebfphmaaRes
import Derived.Test.YtdakikgebfphmaaSrt5Res
namespace Go.Proofs.Ytdakikgebfphmaa
open Go.RowKit

def gamRb1 : Gam := fun f => match f with
  | 76 => some (sO (fun _ n p q => okOff n p q) fun _ n p _ => intV (S p n))
  | 77 => some (sRui (fun n p q x => okOff n p q ∧ 0 ≤ x ∧ x ≤ 1000000) fun n p g x => intV (min g (S p n - x)))
  | _ => none
theorem gamRb1_ok : GOk Try.prog gamRb1 := fun f g h => by
  unfold gamRb1 at h
  split at h
  · injection h with h; subst h; exact sO_ok offSum
  · injection h with h; subst h; exact sRui_ok resHeld
  · cases h
theorem rbCmp0 (x y u x' y' u' : Int) (l l' : Bool) (h1 : -1000000 ≤ u ∧ u ≤ 1000000) (h2 : -1000000 ≤ u' ∧ u' ≤ 1000000) : Fn1 Try.prog 130 [.agg [intV x, intV y, intV u, boolV l], .agg [intV x', intV y', intV u', boolV l']] (intV (if u ≠ u' then u - u' else if l = false ∧ l' = true then -1 else if l = true ∧ l' = false then 1 else 0)) := by
  refine fn_of_wpx (O := lex) tab_ok (Γ := fun _ => none) (fun _ _ h => by cases h) mixed Try.func130 (by kernel_rfl) rfl rfl rfl (by simp [Try.ntmps130]) (by kernel_rfl) ?_
  conv => whnf
  repeat' (first
    | (refine NilG.mk fun bn hbn => ?_; conv => whnf)
    | (refine Both.mk ?_ ?_ <;> conv => whnf)
    | exact trivial
    | (refine Br.mk (fun hb => ?_) (fun hb => ?_) <;> (first | (exfalso; revert hb; decide) | ((try simp only [BL] at hb) <;> (try simp only [DL] at hb) <;> conv => whnf)))
    | (refine And.intro ?_ ?_; (focus (first | exact id | exact rfl | exact trivial | (intro hg; first | exact hg | exact rfl | (simp; done) | (simp at hg ⊢; assumption)) | omega | decide | exact is2_c _ _ _ | exact is1_c _ _ | exact isS_c _ _ | exact isB_c _ _ | exact Nat.le_refl _ | assumption | exact mulLe (by decide) (by omega) | exact mulLe2 (by decide) (by omega) (by omega) | (intros; simp only [BL] at *; omega) | (intros; (try simp only [BL] at *); (try simp only [DL] at *); omega) | (intros; simp only [BL] at *; rw [wr_id (by omega) (by omega)]; omega) | (intro h1 h2; exact Bool.and_eq_true_iff.2 ⟨h1, h2⟩) | (intros; simp_all; done))); conv => whnf)
    | (refine Or.inr (And.intro rfl ?_); first | (refine congrArg intV ?_) | (refine congrArg boolV ?_) | (refine tupII ?_ ?_) | (refine tupIII ?_ ?_ ?_) | (refine tupU ?_ ?_ ?_ ?_ ?_) | exact rfl))
  · rw [if_pos (by simpa using hb)]
    exact wr_id (by omega) (by omega)
  · rename_i hu; rw [if_neg (fun h => h hu), if_pos hb]
  · rename_i hu hv; rw [if_neg (fun h => h hu), if_neg (fun h => by rcases hv with hv | hv <;> simp [hv] at h), if_pos hb]
  · rename_i hu hv; rw [if_neg (fun h => h hu), if_neg (fun h => by rcases hv with hv | hv <;> simp [hv] at h), if_neg (fun h => by rcases hb with hv | hv <;> simp [hv] at h)]
/-- the early part of unit k -/
def rE (m : Nat → Nat) (p : Nat → Nat → Int) (g : Nat → Int) (k : Nat) : Int := S (p k) (m k) - min (g k) (S (p k) (m k))
section
variable {n : Nat} {s : Nat → ByteArray} {m : Nat → Nat} {p q : Nat → Nat → Int} {g : Nat → Int}
theorem rb_ok (h : unE n s m p q g = 0) : RbOk m p q (rE m p g) n := by
  obtain ⟨_, hall⟩ := unE_zero h
  refine ⟨fun k hk j hj => ((hall k hk).1.2.1 j hj).1, fun k hk => (hall k hk).1.2.2.1, fun k hk => ?_, fun k hk => ?_⟩
  · have := hall k hk
    unfold rE
    omega
  · have := hall k hk
    unfold rE
    omega
theorem oN_le2 {w : Nat → Nat} (h : ∀ j, w j ≤ 2) : ∀ k, oN w k ≤ 2 * k
  | 0 => Nat.le_refl _
  | k + 1 => by
    have := oN_le2 h k
    have := h k
    simp only [oN]
    omega
theorem rW_le (p : Nat → Int) (E : Int) (j : Nat) : rW p E j ≤ 2 := by
  unfold rW
  split <;> split <;> omega
theorem rM_le {E : Nat → Int} : ∀ {k : Nat}, (∀ i, i < k → m i ≤ 12) → oN (rM m p E) k ≤ 24 * k
  | 0, _ => Nat.le_refl _
  | k + 1, h => by
    have h1 := rM_le (E := E) (k := k) fun i hi => h i (by omega)
    have h2 := oN_le2 (rW_le (p k) (E k)) (m k)
    have h3 := h k (by omega)
    show oN (rM m p E) k + oN (rW (p k) (E k)) (m k) ≤ _
    omega
theorem bl_early {E : Nat → Int} {k j : Nat} (hk : k < n) (hj : j < m k) (h0 : 0 < fl (p k) (E k) j) :
    own (rM m p E) n (oN (rM m p E) k + oN (rW (p k) (E k)) j) = k ∧ uS m p E n (oN (rM m p E) k + oN (rW (p k) (E k)) j) = fl (p k) (E k) j ∧ uQ m p q E n (oN (rM m p E) k + oN (rW (p k) (E k)) j) = q k j ∧ uF m p E n (oN (rM m p E) k + oN (rW (p k) (E k)) j) = false := by
  have hz : 0 < rW (p k) (E k) j := by unfold rW; rw [if_pos h0]; omega
  have hF : rF (p k) (E k) (m k) (oN (rW (p k) (E k)) j + 0) = false := by rw [rF_at hj hz]; simp [h0]
  have e : oN (rM m p E) k + oN (rW (p k) (E k)) j = oN (rM m p E) k + (oN (rW (p k) (E k)) j + 0) := rfl
  rw [e]
  refine ⟨own_at (rM_lt hj hz) hk, (uA_at _ hk hj hz).trans ?_, (uA_at _ hk hj hz).trans ?_, (uA_at _ hk hj hz).trans hF⟩
  · unfold rS
    rw [hF, rJ_at hj hz]
    rfl
  · rw [rJ_at hj hz]
theorem bl_late {E : Nat → Int} {k j : Nat} (hk : k < n) (hj : j < m k) {z : Nat} (hz0 : z = if 0 < fl (p k) (E k) j then 1 else 0) (h0 : fl (p k) (E k) j < p k j) :
    own (rM m p E) n (oN (rM m p E) k + oN (rW (p k) (E k)) j + z) = k ∧ uS m p E n (oN (rM m p E) k + oN (rW (p k) (E k)) j + z) = p k j - fl (p k) (E k) j ∧ uQ m p q E n (oN (rM m p E) k + oN (rW (p k) (E k)) j + z) = q k j ∧ uF m p E n (oN (rM m p E) k + oN (rW (p k) (E k)) j + z) = true := by
  have hz : z < rW (p k) (E k) j := by unfold rW; rw [if_pos h0, hz0]; split <;> omega
  have hF : rF (p k) (E k) (m k) (oN (rW (p k) (E k)) j + z) = true := by
    rw [rF_at hj hz, hz0]
    split
    · simp
    · rename_i h1; simp; omega
  rw [Nat.add_assoc]
  refine ⟨own_at (rM_lt hj hz) hk, (uA_at _ hk hj hz).trans ?_, (uA_at _ hk hj hz).trans ?_, (uA_at _ hk hj hz).trans hF⟩
  · unfold rS
    rw [hF, rJ_at hj hz]
    rfl
  · rw [rJ_at hj hz]
end
/-- the blocks, column by column -/
def rbCol (m : Nat → Nat) (p q : Nat → Nat → Int) (E : Nat → Int) (n : Nat) : Nat → Nat → L := colRes (fun e => own (rM m p E) n e) (uS m p E n) (uQ m p q E n) (uF m p E n)
/-- what blocks returns -/
def rbK (m : Nat → Nat) (p q : Nat → Nat → Int) (E : Nat → Int) (n : Nat) (obs : List OB) (v : AV) : Prop := obs = [] ∧ ∃ π, Sorted (uK m p q E n) π (oN (rM m p E) n) ∧ v = .c (.sl 4 (oN (rM m p E) n) fun i j => rbCol m p q E n (π i) j)
theorem rbCmp {n : Nat} {s : Nat → ByteArray} {m : Nat → Nat} {p q : Nat → Nat → Int} {g : Nat → Int} (h : unE n s m p q g = 0) : CmpRes 130 (rbCol m p q (rE m p g) n) (uK m p q (rE m p g) n) (oN (rM m p (rE m p g)) n) :=
  ⟨fun i j hi hj => by
    have hb : ∀ e, e < oN (rM m p (rE m p g)) n → -1000000 ≤ uQ m p q (rE m p g) n e ∧ uQ m p q (rE m p g) n e ≤ 1000000 := fun e he => by
      obtain ⟨k, j, i, hk, hj, hi, rfl⟩ := at3 he
      have h1 := ((unE_zero h).2 k hk).1.2.1 j hj
      unfold uQ
      rw [uA_at _ hk hj hi, rJ_at hj hi]
      exact h1.2.2
    refine ⟨_, rbCmp0 _ _ _ _ _ _ _ _ (hb i hi) (hb j hj), ?_⟩
    unfold uK
    cases uF m p (rE m p g) n i <;> cases uF m p (rE m p g) n j <;> simp <;> split <;> omega⟩
set_option maxHeartbeats 1000000 in
theorem rbBlocks (n : Nat) (s : Nat → ByteArray) (m : Nat → Nat) (p q : Nat → Nat → Int) (g : Nat → Int) (h : unE n s m p q g = 0) : Fn Try.prog 107 [.c (.sl 3 n (cRu s m p q g))] (rbK m p q (rE m p g) n) := by
  refine fn_of_wpx (O := lex) tab_ok gamRb1_ok mixed Try.func107 (by kernel_rfl) rfl rfl rfl (by simp [Try.ntmps107]) (by kernel_rfl) ?_
  obtain ⟨hn10, hall⟩ := unE_zero h
  generalize hE : rE m p g = E
  have hsc := scRes (fun e => own (rM m p E) n e) (uS m p E n) (uQ m p q E n) (uF m p E n)
  conv => whnf
  repeat' (first
    | (refine NilG.mk fun bn hbn => ?_; conv => whnf)
    | (refine Both.mk ?_ ?_ <;> conv => whnf)
    | exact trivial
    | (refine Br.mk (fun hb => ?_) (fun hb => ?_) <;> (first | (exfalso; revert hb; decide) | ((try simp only [BL] at hb) <;> (try simp only [DL] at hb) <;> conv => whnf)))
    | (refine And.intro ?_ ?_; (focus (first | exact id | exact rfl | exact trivial | (intro hg; first | exact hg | exact rfl | (simp; done) | (simp at hg ⊢; assumption)) | omega | decide | exact is2_c _ _ _ | exact is1_c _ _ | exact isS_c _ _ | exact isB_c _ _ | exact Nat.le_refl _ | assumption | exact mulLe (by decide) (by omega) | exact mulLe2 (by decide) (by omega) (by omega) | (intros; simp only [BL] at *; omega) | (intros; (try simp only [BL] at *); (try simp only [DL] at *); omega) | (intros; simp only [BL] at *; rw [wr_id (by omega) (by omega)]; omega) | (intro h1 h2; exact Bool.and_eq_true_iff.2 ⟨h1, h2⟩) | (intros; simp_all; done))); conv => whnf)
    | (refine Or.inr (And.intro rfl ?_); first | (refine congrArg intV ?_) | (refine congrArg boolV ?_) | (refine tupII ?_ ?_) | (refine tupIII ?_ ?_ ?_) | (refine tupU ?_ ?_ ?_ ?_ ?_) | exact rfl))
  refine LoopG.nil 3 166 4 rfl ?_
  refine sem_loop tab_ok gamRb1_ok mixed (by kernel_rfl) (O := lex) (fun i : Nat => ⟨[(3, .own 0), (10, .c (.sl 3 n (cRu s m p q g))), (11, intV n), (12, intV i)], [rowRes (oN (rM m p E) i) (rbCol m p q E n) id]⟩) (fun i => i ≤ n) (fun i => n - i) ⟨0, [?_], Nat.zero_le _, ?_⟩ fun i hi => ?_
  rotate_left 1
  · refine Sub.of ?_ ?_ ?_
    repeat' (first | (refine And.intro ?_ ?_) | exact trivial | exact fun _ _ _ => hsc _ _ | (exact congrArg intV (by first | with_reducible rfl | with_reducible assumption)) | exact (rfl : AV.idsLt _ _ = true) | exact (rfl : _ = AV.ren _ (.own _)) | exact (rfl : _ = AV.ren _ (.fn _ _)) | exact (rfl : _ = AV.ren _ (.gh _)) | (exact congrArg intV (by assumption)) | (refine congrArg intV ((wr_id (by omega) (by omega)).trans (by omega))) | exact rfl | (simp only [Int.toNat_natCast, Int.toNat_zero, Nat.sub_zero, Nat.zero_add]; first | exact rfl | done) | exact all0 | exact fun h => Bool.noConfusion h | exact fun _ _ _ _ => rfl | omega)
  conv => whnf
  repeat' (first
    | (refine NilG.mk fun bn hbn => ?_; conv => whnf)
    | (refine Both.mk ?_ ?_ <;> conv => whnf)
    | exact trivial
    | (refine Br.mk (fun hb => ?_) (fun hb => ?_) <;> (first | (exfalso; revert hb; decide) | ((try simp only [BL] at hb) <;> (try simp only [DL] at hb) <;> conv => whnf)))
    | (refine And.intro ?_ ?_; (focus (first | exact id | exact rfl | exact trivial | (intro hg; first | exact hg | exact rfl | (simp; done) | (simp at hg ⊢; assumption)) | omega | decide | exact is2_c _ _ _ | exact is1_c _ _ | exact isS_c _ _ | exact isB_c _ _ | exact Nat.le_refl _ | assumption | exact mulLe (by decide) (by omega) | exact mulLe2 (by decide) (by omega) (by omega) | (intros; simp only [BL] at *; omega) | (intros; (try simp only [BL] at *); (try simp only [DL] at *); omega) | (intros; simp only [BL] at *; rw [wr_id (by omega) (by omega)]; omega) | (intro h1 h2; exact Bool.and_eq_true_iff.2 ⟨h1, h2⟩) | first | exact ⟨is2_c _ _ _, (hall i (by omega)).1⟩ | exact ⟨is2_c _ _ _, (hall i (by omega)).1, by omega, by omega⟩ | (intros; simp_all; done))); conv => whnf)
    | (refine Or.inr (And.intro rfl ?_); first | (refine congrArg intV ?_) | (refine congrArg boolV ?_) | (refine tupII ?_ ?_) | (refine tupIII ?_ ?_ ?_) | (refine tupU ?_ ?_ ?_ ?_ ?_) | exact rfl))
  · have hin : i < n := by omega
    obtain ⟨hoi, hS0, hS1, hg0, hg1⟩ := hall i hin
    have hEi : E i = S (p i) (m i) - min (g i) (S (p i) (m i)) := by rw [← hE]; rfl
    have hsz := rM_le (m := m) (p := p) (E := E) (k := i) fun z hz => (hall z (by omega)).1.1
    have e0 : IntKind.i64.wrap (S (p i) (m i) - min (g i) (S (p i) (m i) - 0)) = max 0 (E i - S (p i) 0) := by
      show _ = max 0 (E i - 0)
      rw [wr_id (by omega) (by omega), hEi]
      omega
    have e1 : oN (rM m p E) i = oN (rM m p E) i + oN (rW (p i) (E i)) 0 := rfl
    refine sem_loop tab_ok gamRb1_ok mixed (by kernel_rfl) (O := lex) (fun j : Nat => ⟨[(3, .own 0), (4, intV i), (6, intV (max 0 (E i - S (p i) j))), (10, .c (.sl 3 n (cRu s m p q g))), (11, intV n), (12, intV i), (25, .c (.sl 2 (m i) (c2 (p i) (q i)))), (26, intV (m i)), (27, intV j)], [rowRes (oN (rM m p E) i + oN (rW (p i) (E i)) j) (rbCol m p q E n) id]⟩) (fun j => j ≤ m i) (fun j => m i - j) ⟨0, [?_], Nat.zero_le _, ?_⟩ fun j hj => ?_
    rotate_left 1
    · refine Sub.of ?_ ?_ ?_
      repeat' (first | (refine And.intro ?_ ?_) | exact trivial | exact fun _ _ _ => hsc _ _ | (exact congrArg intV (by first | with_reducible rfl | with_reducible assumption)) | exact (rfl : AV.idsLt _ _ = true) | exact (rfl : _ = AV.ren _ (.own _)) | exact (rfl : _ = AV.ren _ (.fn _ _)) | exact (rfl : _ = AV.ren _ (.gh _)) | (exact congrArg intV (by assumption)) | (refine congrArg intV ((wr_id (by omega) (by omega)).trans (by omega))) | exact rfl | (simp only [Int.toNat_natCast, Int.toNat_zero, Nat.sub_zero, Nat.zero_add]; first | exact rfl | done) | exact all0 | exact fun h => Bool.noConfusion h | exact fun _ _ _ _ => rfl | omega)
    clear e0 e1
    have hw := oN_le2 (rW_le (p i) (E i)) j
    have hm12 := hoi.1
    have hpj := hoi.2.1 j
    have hfl : fl (p i) (E i) j = min (max 0 (E i - S (p i) j)) (p i j) := by unfold fl; omega
    have hS0 := fun (h : j ≤ m i) => hoi.S0 h
    have hSj := hS0 hj
    have hcW : oN (rW (p i) (E i)) (j + 1) = oN (rW (p i) (E i)) j + ((if 0 < fl (p i) (E i) j then 1 else 0) + (if fl (p i) (E i) j < p i j then 1 else 0)) := rfl
    have hSt : S (p i) (j + 1) = S (p i) j + p i j := rfl
    have w2 : j < m i → IntKind.i64.wrap (max 0 (E i - S (p i) j) - min (max 0 (E i - S (p i) j)) (p i j)) = max 0 (E i - S (p i) (j + 1)) := fun h => by
      have := hpj h
      rw [wr_id (by omega) (by omega)]
      omega
    conv => whnf
    repeat' (first
      | (refine NilG.mk fun bn hbn => ?_; conv => whnf)
      | (refine Both.mk ?_ ?_ <;> conv => whnf)
      | exact trivial
      | (refine Br.mk (fun hb => ?_) (fun hb => ?_) <;> (first | (exfalso; revert hb; decide) | ((try simp only [BL] at hb) <;> (try simp only [DL] at hb) <;> conv => whnf)))
      | (refine And.intro ?_ ?_; (focus (first | exact id | exact rfl | exact trivial | (intro hg; first | exact hg | exact rfl | (simp; done) | (simp at hg ⊢; assumption)) | omega | decide | exact is2_c _ _ _ | exact is1_c _ _ | exact isS_c _ _ | exact isB_c _ _ | exact Nat.le_refl _ | assumption | exact mulLe (by decide) (by omega) | exact mulLe2 (by decide) (by omega) (by omega) | (intros; simp only [BL] at *; omega) | (intros; (try simp only [BL] at *); (try simp only [DL] at *); omega) | (intros; simp only [BL] at *; rw [wr_id (by omega) (by omega)]; omega) | (intro h1 h2; exact Bool.and_eq_true_iff.2 ⟨h1, h2⟩) | (intros; simp_all; done))); conv => whnf)
      | (refine Or.inr (And.intro rfl ?_); first | (refine congrArg intV ?_) | (refine congrArg boolV ?_) | (refine tupII ?_ ?_) | (refine tupIII ?_ ?_ ?_) | (refine tupU ?_ ?_ ?_ ?_ ?_) | exact rfl))
    · have hjm : j < m i := by omega
      have w2 := w2 hjm
      have hp1 := hpj hjm
      have f0 : 0 < fl (p i) (E i) j := by omega
      have f1 : fl (p i) (E i) j < p i j := by omega
      obtain ⟨a1, a2, a3, a4⟩ := bl_early (q := q) hin hjm f0
      obtain ⟨b1, b2, b3, b4⟩ := bl_late (q := q) hin hjm (z := 1) (by rw [if_pos f0]) f1
      have w3 : IntKind.i64.wrap (p i j - min (max 0 (E i - S (p i) j)) (p i j)) = p i j - fl (p i) (E i) j := by rw [wr_id (by omega) (by omega), hfl]
      rw [if_pos f0, if_pos f1] at hcW
      have e5 : oN (rM m p E) i + oN (rW (p i) (E i)) j + 1 + 1 = oN (rM m p E) i + oN (rW (p i) (E i)) (j + 1) := by omega
      refine ⟨j + 1, [?_], by omega, by omega, ?_⟩
      rotate_left 1
      refine Sub.of ?_ ?_ ?_
      repeat' (first | (refine And.intro ?_ ?_) | exact trivial | exact fun _ _ _ => hsc _ _ | (exact congrArg intV (by first | with_reducible rfl | with_reducible assumption)) | exact (rfl : AV.idsLt _ _ = true) | exact (rfl : _ = AV.ren _ (.own _)) | exact (rfl : _ = AV.ren _ (.fn _ _)) | exact (rfl : _ = AV.ren _ (.gh _)) | (exact congrArg intV (by assumption)) | (refine congrArg intV ((wr_id (by omega) (by omega)).trans (by omega))) | exact rfl | (simp only [Int.toNat_natCast, Int.toNat_zero, Nat.sub_zero, Nat.zero_add]; first | exact rfl | done) | exact all0 | exact fun h => Bool.noConfusion h | exact fun _ _ _ _ => rfl | omega)
      intro aq haq bq hbq
      by_cases h1 : aq < oN (rM m p E) i + oN (rW (p i) (E i)) j + 1
      · refine (if_pos h1).trans ?_
        by_cases h2 : aq < oN (rM m p E) i + oN (rW (p i) (E i)) j
        · exact if_pos h2
        · obtain rfl : aq = oN (rM m p E) i + oN (rW (p i) (E i)) j := by omega
          refine (if_neg h2).trans ?_
          rw [Nat.sub_self]
          revert bq hbq
          refine all4 (congrArg (fun z : Nat => iL (z : Int)) a1.symm) (congrArg iL (hfl.symm.trans a2.symm)) (congrArg iL a3.symm) (congrArg bL a4.symm)
      · obtain rfl : aq = oN (rM m p E) i + oN (rW (p i) (E i)) j + 1 := by omega
        refine (if_neg h1).trans ?_
        rw [Nat.sub_self]
        revert bq hbq
        refine all4 (congrArg (fun z : Nat => iL (z : Int)) b1.symm) (congrArg iL (w3.trans b2.symm)) (congrArg iL b3.symm) (congrArg bL b4.symm)
    · have hjm : j < m i := by omega
      have w2 := w2 hjm
      have hp1 := hpj hjm
      have f0 : 0 < fl (p i) (E i) j := by omega
      have f1 : ¬ fl (p i) (E i) j < p i j := by omega
      obtain ⟨a1, a2, a3, a4⟩ := bl_early (q := q) hin hjm f0
      rw [if_pos f0, if_neg f1] at hcW
      have e5 : oN (rM m p E) i + oN (rW (p i) (E i)) j + 1 = oN (rM m p E) i + oN (rW (p i) (E i)) (j + 1) := by omega
      refine ⟨j + 1, [?_], by omega, by omega, ?_⟩
      rotate_left 1
      refine Sub.of ?_ ?_ ?_
      repeat' (first | (refine And.intro ?_ ?_) | exact trivial | exact fun _ _ _ => hsc _ _ | (exact congrArg intV (by first | with_reducible rfl | with_reducible assumption)) | exact (rfl : AV.idsLt _ _ = true) | exact (rfl : _ = AV.ren _ (.own _)) | exact (rfl : _ = AV.ren _ (.fn _ _)) | exact (rfl : _ = AV.ren _ (.gh _)) | (exact congrArg intV (by assumption)) | (refine congrArg intV ((wr_id (by omega) (by omega)).trans (by omega))) | exact rfl | (simp only [Int.toNat_natCast, Int.toNat_zero, Nat.sub_zero, Nat.zero_add]; first | exact rfl | done) | exact all0 | exact fun h => Bool.noConfusion h | exact fun _ _ _ _ => rfl | omega)
      intro aq haq bq hbq
      by_cases hltq : aq < oN (rM m p E) i + oN (rW (p i) (E i)) j
      · exact if_pos hltq
      · obtain rfl : aq = oN (rM m p E) i + oN (rW (p i) (E i)) j := by omega
        refine (if_neg hltq).trans ?_
        rw [Nat.sub_self]
        revert bq hbq
        refine all4 (congrArg (fun z : Nat => iL (z : Int)) a1.symm) (congrArg iL (hfl.symm.trans a2.symm)) (congrArg iL a3.symm) (congrArg bL a4.symm)
    · have hjm : j < m i := by omega
      have w2 := w2 hjm
      have hp1 := hpj hjm
      have f0 : ¬ 0 < fl (p i) (E i) j := by omega
      have f1 : fl (p i) (E i) j < p i j := by omega
      obtain ⟨b1, b2, b3, b4⟩ := bl_late (q := q) hin hjm (z := 0) (by rw [if_neg f0]) f1
      have w3 : IntKind.i64.wrap (p i j - min (max 0 (E i - S (p i) j)) (p i j)) = p i j - fl (p i) (E i) j := by rw [wr_id (by omega) (by omega), hfl]
      rw [if_neg f0, if_pos f1] at hcW
      have e5 : oN (rM m p E) i + oN (rW (p i) (E i)) j + 1 = oN (rM m p E) i + oN (rW (p i) (E i)) (j + 1) := by omega
      refine ⟨j + 1, [?_], by omega, by omega, ?_⟩
      rotate_left 1
      refine Sub.of ?_ ?_ ?_
      repeat' (first | (refine And.intro ?_ ?_) | exact trivial | exact fun _ _ _ => hsc _ _ | (exact congrArg intV (by first | with_reducible rfl | with_reducible assumption)) | exact (rfl : AV.idsLt _ _ = true) | exact (rfl : _ = AV.ren _ (.own _)) | exact (rfl : _ = AV.ren _ (.fn _ _)) | exact (rfl : _ = AV.ren _ (.gh _)) | (exact congrArg intV (by assumption)) | (refine congrArg intV ((wr_id (by omega) (by omega)).trans (by omega))) | exact rfl | (simp only [Int.toNat_natCast, Int.toNat_zero, Nat.sub_zero, Nat.zero_add]; first | exact rfl | done) | exact all0 | exact fun h => Bool.noConfusion h | exact fun _ _ _ _ => rfl | omega)
      intro aq haq bq hbq
      by_cases hltq : aq < oN (rM m p E) i + oN (rW (p i) (E i)) j
      · exact if_pos hltq
      · obtain rfl : aq = oN (rM m p E) i + oN (rW (p i) (E i)) j := by omega
        refine (if_neg hltq).trans ?_
        rw [Nat.sub_self]
        revert bq hbq
        refine all4 (congrArg (fun z : Nat => iL (z : Int)) b1.symm) (congrArg iL (w3.trans b2.symm)) (congrArg iL b3.symm) (congrArg bL b4.symm)
    · exfalso
      have hp1 := hpj (by omega)
      omega
    · have hjm : j = m i := by omega
      have e5 : oN (rM m p E) i + oN (rW (p i) (E i)) j = oN (rM m p E) (i + 1) := by rw [hjm]; rfl
      refine ⟨i + 1, [?_], by omega, by omega, ?_⟩
      rotate_left 1
      refine Sub.of ?_ ?_ ?_
      repeat' (first | (refine And.intro ?_ ?_) | exact trivial | exact fun _ _ _ => hsc _ _ | (exact congrArg intV (by first | with_reducible rfl | with_reducible assumption)) | exact (rfl : AV.idsLt _ _ = true) | exact (rfl : _ = AV.ren _ (.own _)) | exact (rfl : _ = AV.ren _ (.fn _ _)) | exact (rfl : _ = AV.ren _ (.gh _)) | (exact congrArg intV (by assumption)) | (refine congrArg intV ((wr_id (by omega) (by omega)).trans (by omega))) | exact rfl | (simp only [Int.toNat_natCast, Int.toNat_zero, Nat.sub_zero, Nat.zero_add]; first | exact rfl | done) | exact all0 | exact fun h => Bool.noConfusion h | exact fun _ _ _ _ => rfl | omega)
  have hin : i = n := by omega
  subst hin
  have hN := rM_le (m := m) (p := p) (E := E) (k := i) fun z hz => (hall z hz).1.1
  subst hE
  refine CallG.wr [0] rfl (FnM.mono (sortRes (rbCmp h) (by omega)) ?_)
  rintro obs r ⟨π, hq, rfl, rfl⟩
  conv => whnf
  repeat' (first
    | (refine NilG.mk fun bn hbn => ?_; conv => whnf)
    | (refine Both.mk ?_ ?_ <;> conv => whnf)
    | exact trivial
    | (refine Br.mk (fun hb => ?_) (fun hb => ?_) <;> (first | (exfalso; revert hb; decide) | ((try simp only [BL] at hb) <;> (try simp only [DL] at hb) <;> conv => whnf)))
    | (refine And.intro ?_ ?_; (focus (first | exact id | exact rfl | exact trivial | (intro hg; first | exact hg | exact rfl | (simp; done) | (simp at hg ⊢; assumption)) | omega | decide | exact is2_c _ _ _ | exact is1_c _ _ | exact isS_c _ _ | exact isB_c _ _ | exact Nat.le_refl _ | assumption | exact mulLe (by decide) (by omega) | exact mulLe2 (by decide) (by omega) (by omega) | (intros; simp only [BL] at *; omega) | (intros; (try simp only [BL] at *); (try simp only [DL] at *); omega) | (intros; simp only [BL] at *; rw [wr_id (by omega) (by omega)]; omega) | (intro h1 h2; exact Bool.and_eq_true_iff.2 ⟨h1, h2⟩) | (intros; simp_all; done))); conv => whnf)
    | (refine Or.inr (And.intro rfl ?_); first | (refine congrArg intV ?_) | (refine congrArg boolV ?_) | (refine tupII ?_ ?_) | (refine tupIII ?_ ?_ ?_) | (refine tupU ?_ ?_ ?_ ?_ ?_) | exact rfl))
  exact .inr ⟨rfl, π, hq, rfl⟩

def badN (x : Int) : Bool := decide (x < 0) || decide (x > 1000000)
theorem rbOut (x : Int) : Fn1 Try.prog 106 [intV x] (boolV (badN x)) := by
  refine fn_of_wpx (O := lex) tab_ok gamRb1_ok mixed Try.func106 (by kernel_rfl) rfl rfl rfl (by simp [Try.ntmps106]) (by kernel_rfl) ?_
  conv => whnf
  repeat' (first
    | (refine NilG.mk fun bn hbn => ?_; conv => whnf)
    | (refine Both.mk ?_ ?_ <;> conv => whnf)
    | exact trivial
    | (refine Br.mk (fun hb => ?_) (fun hb => ?_) <;> (first | (exfalso; revert hb; decide) | ((try simp only [BL] at hb) <;> (try simp only [DL] at hb) <;> conv => whnf)))
    | (refine And.intro ?_ ?_; (focus (first | exact id | exact rfl | exact trivial | (intro hg; first | exact hg | exact rfl | (simp; done) | (simp at hg ⊢; assumption)) | omega | decide | exact is2_c _ _ _ | exact is1_c _ _ | exact isS_c _ _ | exact isB_c _ _ | exact Nat.le_refl _ | assumption | exact mulLe (by decide) (by omega) | exact mulLe2 (by decide) (by omega) (by omega) | (intros; simp only [BL] at *; omega) | (intros; (try simp only [BL] at *); (try simp only [DL] at *); omega) | (intros; simp only [BL] at *; rw [wr_id (by omega) (by omega)]; omega) | (intro h1 h2; exact Bool.and_eq_true_iff.2 ⟨h1, h2⟩) | (intros; simp_all; done))); conv => whnf)
    | (refine Or.inr (And.intro rfl ?_); first | (refine congrArg intV ?_) | (refine congrArg boolV ?_) | (refine tupII ?_ ?_) | (refine tupIII ?_ ?_ ?_) | (refine tupU ?_ ?_ ?_ ?_ ?_) | exact rfl))
  · rfl
def s1i (f : Int → Bool) : List AV → Sd × AV
  | [.c (.v (.int .i64 a))] => (.t, boolV (f a))
  | _ => (.p False, .top)
theorem s1i_ok {f : FuncId} {g : Int → Bool} (h : ∀ a, Fn1 Try.prog f [intV a] (boolV (g a))) : ∀ args, (s1i g args).1.ok → (s1i g args).2.exact.isSome = true → Fn1 Try.prog f args (s1i g args).2 := fun args hs _ => by
  unfold s1i at hs ⊢
  split at hs
  · exact h _
  · exact hs.elim
def gamRb2 : Gam := fun f => match f with
  | 29 => some (sRul fun n s m p q g => posV n s m p q g)
  | 106 => some (s1i badN)
  | _ => none
theorem gamRb2_ok : GOk Try.prog gamRb2 := fun f g h => by
  unfold gamRb2 at h
  split at h
  · injection h with h; subst h; exact sRul_ok fun s m p q g n h1 h2 => resPossible s m p q g n h1 h2
  · injection h with h; subst h; exact s1i_ok rbOut
  · cases h
/-- the error of Best -/
def rbE (n : Nat) (s : Nat → ByteArray) (m : Nat → Nat) (p q : Nat → Nat → Int) (g : Nat → Int) (T nd : Int) : Int := if unE n s m p q g ≠ 0 then unE n s m p q g else if badN T = true ∨ badN nd = true then 4 else if S (hK m p g z0) n - nd < 0 then 8 else 0
/-- what Best returns -/
def rbB (n : Nat) (s : Nat → ByteArray) (m : Nat → Nat) (p q : Nat → Nat → Int) (g : Nat → Int) (T nd : Int) (obs : List OB) (v : AV) : Prop :=
  obs = [] ∧ ((rbE n s m p q g T nd ≠ 0 ∧ v = .tup [.c (.v (.slice none 0 0)), intV 0, intV (rbE n s m p q g T nd)]) ∨
    (rbE n s m p q g T nd = 0 ∧ ∃ π, Sorted (uK m p q (rE m p g) n) π (oN (rM m p (rE m p g)) n) ∧
      ((rbD m p (rE m p g) n π T (S (hK m p g z0) n - nd) (oN (rM m p (rE m p g)) n) > 0 ∧ v = .tup [.c (.v (.slice none 0 0)), intV 0, intV 8]) ∨
       (¬ rbD m p (rE m p g) n π T (S (hK m p g z0) n - nd) (oN (rM m p (rE m p g)) n) > 0 ∧ v = .tup [.c (.sl 1 n (c1 fun k => rbX m p (rE m p g) n π T (S (hK m p g z0) n - nd) k (oN (rM m p (rE m p g)) n))), intV (rbC m p q (rE m p g) n π T (S (hK m p g z0) n - nd) (oN (rM m p (rE m p g)) n)), intV 0]))))
set_option maxHeartbeats 1000000 in
theorem rbBest (n : Nat) (s : Nat → ByteArray) (m : Nat → Nat) (p q : Nat → Nat → Int) (g : Nat → Int) (T nd : Int) (hB : n * 40 ≤ 140737488355328) (hk : ∀ k, k < n → (s k).size ≤ maxLen ∧ m k ≤ maxLen) : Fn Try.prog 56 [.c (.sl 3 n (cRu s m p q g)), intV T, intV nd] (rbB n s m p q g T nd) := by
  refine fn_of_wpx (O := lex) tab_ok gamRb2_ok mixed Try.func56 (by kernel_rfl) rfl rfl rfl (by simp [Try.ntmps56]) (by kernel_rfl) ?_
  conv => whnf
  repeat' (first
    | (refine NilG.mk fun bn hbn => ?_; conv => whnf)
    | (refine Both.mk ?_ ?_ <;> conv => whnf)
    | exact trivial
    | (refine Br.mk (fun hb => ?_) (fun hb => ?_) <;> (first | (exfalso; revert hb; decide) | ((try simp only [BL] at hb) <;> (try simp only [DL] at hb) <;> conv => whnf)))
    | (refine And.intro ?_ ?_; (focus (first | exact id | exact rfl | exact trivial | (intro hg; first | exact hg | exact rfl | (simp; done) | (simp at hg ⊢; assumption)) | omega | decide | exact is2_c _ _ _ | exact is1_c _ _ | exact isS_c _ _ | exact isB_c _ _ | exact Nat.le_refl _ | assumption | exact mulLe (by decide) (by omega) | exact mulLe2 (by decide) (by omega) (by omega) | (intros; simp only [BL] at *; omega) | (intros; (try simp only [BL] at *); (try simp only [DL] at *); omega) | (intros; simp only [BL] at *; rw [wr_id (by omega) (by omega)]; omega) | (intro h1 h2; exact Bool.and_eq_true_iff.2 ⟨h1, h2⟩) | exact isRu_c hB hk | (intros; simp_all; done))); conv => whnf)
    | (refine Or.inr (And.intro rfl ?_); first | (refine congrArg intV ?_) | (refine congrArg boolV ?_) | (refine tupII ?_ ?_) | (refine tupIII ?_ ?_ ?_) | (refine tupU ?_ ?_ ?_ ?_ ?_) | exact rfl))
  · have h0 : ¬ unE n s m p q g = 0 := hb
    have hE : rbE n s m p q g T nd = unE n s m p q g := if_pos h0
    exact .inr ⟨rfl, .inl ⟨by rw [hE]; exact h0, by rw [hE]; rfl⟩⟩
  have h0 : unE n s m p q g = 0 := hb
  clear hb
  obtain ⟨hn10, hall⟩ := unE_zero h0
  have hK0 := hsum (x := z0) h0 (Nat.le_refl n) (fun j hj => ⟨Int.le_refl _, (hall j hj).2.1⟩)
  refine CallG.mk (Fn.mono (rbOut T) ?_)
  rintro obs r ⟨rfl, rfl⟩
  conv => whnf
  repeat' (first
    | (refine NilG.mk fun bn hbn => ?_; conv => whnf)
    | (refine Both.mk ?_ ?_ <;> conv => whnf)
    | exact trivial
    | (refine Br.mk (fun hb => ?_) (fun hb => ?_) <;> (first | (exfalso; revert hb; decide) | ((try simp only [BL] at hb) <;> (try simp only [DL] at hb) <;> conv => whnf)))
    | (refine And.intro ?_ ?_; (focus (first | exact id | exact rfl | exact trivial | (intro hg; first | exact hg | exact rfl | (simp; done) | (simp at hg ⊢; assumption)) | omega | decide | exact is2_c _ _ _ | exact is1_c _ _ | exact isS_c _ _ | exact isB_c _ _ | exact Nat.le_refl _ | assumption | exact mulLe (by decide) (by omega) | exact mulLe2 (by decide) (by omega) (by omega) | (intros; simp only [BL] at *; omega) | (intros; (try simp only [BL] at *); (try simp only [DL] at *); omega) | (intros; simp only [BL] at *; rw [wr_id (by omega) (by omega)]; omega) | (intro h1 h2; exact Bool.and_eq_true_iff.2 ⟨h1, h2⟩) | (intros; simp_all; done))); conv => whnf)
    | (refine Or.inr (And.intro rfl ?_); first | (refine congrArg intV ?_) | (refine congrArg boolV ?_) | (refine tupII ?_ ?_) | (refine tupIII ?_ ?_ ?_) | (refine tupU ?_ ?_ ?_ ?_ ?_) | exact rfl))
  refine And.intro (fun hg => ?_) (fun hg => ?_)
  rotate_left 1
  · rw [hg]
    conv => whnf
    repeat' (first
      | (refine NilG.mk fun bn hbn => ?_; conv => whnf)
      | (refine Both.mk ?_ ?_ <;> conv => whnf)
      | exact trivial
      | (refine Br.mk (fun hb => ?_) (fun hb => ?_) <;> (first | (exfalso; revert hb; decide) | ((try simp only [BL] at hb) <;> (try simp only [DL] at hb) <;> conv => whnf)))
      | (refine And.intro ?_ ?_; (focus (first | exact id | exact rfl | exact trivial | (intro hg; first | exact hg | exact rfl | (simp; done) | (simp at hg ⊢; assumption)) | omega | decide | exact is2_c _ _ _ | exact is1_c _ _ | exact isS_c _ _ | exact isB_c _ _ | exact Nat.le_refl _ | assumption | exact mulLe (by decide) (by omega) | exact mulLe2 (by decide) (by omega) (by omega) | (intros; simp only [BL] at *; omega) | (intros; (try simp only [BL] at *); (try simp only [DL] at *); omega) | (intros; simp only [BL] at *; rw [wr_id (by omega) (by omega)]; omega) | (intro h1 h2; exact Bool.and_eq_true_iff.2 ⟨h1, h2⟩) | (intros; simp_all; done))); conv => whnf)
      | (refine Or.inr (And.intro rfl ?_); first | (refine congrArg intV ?_) | (refine congrArg boolV ?_) | (refine tupII ?_ ?_) | (refine tupIII ?_ ?_ ?_) | (refine tupU ?_ ?_ ?_ ?_ ?_) | exact rfl))
    have hE : rbE n s m p q g T nd = 4 := by unfold rbE; rw [if_neg (fun h => h h0), if_pos (.inl (by simpa using hg))]
    exact .inr ⟨rfl, .inl ⟨by rw [hE]; decide, by rw [hE]; rfl⟩⟩
  conv => whnf
  refine CallG.mk (Fn.mono (rbOut nd) ?_)
  rintro obs r ⟨rfl, rfl⟩
  conv => whnf
  repeat' (first
    | (refine NilG.mk fun bn hbn => ?_; conv => whnf)
    | (refine Both.mk ?_ ?_ <;> conv => whnf)
    | exact trivial
    | (refine Br.mk (fun hb => ?_) (fun hb => ?_) <;> (first | (exfalso; revert hb; decide) | ((try simp only [BL] at hb) <;> (try simp only [DL] at hb) <;> conv => whnf)))
    | (refine And.intro ?_ ?_; (focus (first | exact id | exact rfl | exact trivial | (intro hg; first | exact hg | exact rfl | (simp; done) | (simp at hg ⊢; assumption)) | omega | decide | exact is2_c _ _ _ | exact is1_c _ _ | exact isS_c _ _ | exact isB_c _ _ | exact Nat.le_refl _ | assumption | exact mulLe (by decide) (by omega) | exact mulLe2 (by decide) (by omega) (by omega) | (intros; simp only [BL] at *; omega) | (intros; (try simp only [BL] at *); (try simp only [DL] at *); omega) | (intros; simp only [BL] at *; rw [wr_id (by omega) (by omega)]; omega) | (intro h1 h2; exact Bool.and_eq_true_iff.2 ⟨h1, h2⟩) | (intros; simp_all; done))); conv => whnf)
    | (refine Or.inr (And.intro rfl ?_); first | (refine congrArg intV ?_) | (refine congrArg boolV ?_) | (refine tupII ?_ ?_) | (refine tupIII ?_ ?_ ?_) | (refine tupU ?_ ?_ ?_ ?_ ?_) | exact rfl))
  · have hE : rbE n s m p q g T nd = 4 := by unfold rbE; rw [if_neg (fun h => h h0), if_pos hb]
    exact .inr ⟨rfl, .inl ⟨by rw [hE]; decide, by rw [hE]; rfl⟩⟩
  · rename_i hd
    have hr : 0 ≤ nd ∧ nd ≤ 1000000 := by
      have := hd.2
      simp only [badN, BL] at this
      omega
    have eL : IntKind.i64.wrap ((if unE n s m p q g = 0 then S (hK m p g z0) n else 0) - nd) = S (hK m p g z0) n - nd := by rw [if_pos h0]; exact wr_id (by omega) (by omega)
    have hb : IntKind.i64.wrap ((if unE n s m p q g = 0 then S (hK m p g z0) n else 0) - nd) < 0 := hb
    rw [eL] at hb
    have hE : rbE n s m p q g T nd = 8 := by unfold rbE; rw [if_neg (fun h => h h0), if_neg (by rw [hd.1, hd.2]; simp), if_pos hb]
    exact .inr ⟨rfl, .inl ⟨by rw [hE]; decide, by rw [hE]; rfl⟩⟩
  rename_i hd
  have hr : (0 ≤ T ∧ T ≤ 1000000) ∧ 0 ≤ nd ∧ nd ≤ 1000000 := by
    have h1 := hd.1
    have h2 := hd.2
    simp only [badN, BL] at h1 h2
    omega
  have eL : IntKind.i64.wrap ((if unE n s m p q g = 0 then S (hK m p g z0) n else 0) - nd) = S (hK m p g z0) n - nd := by rw [if_pos h0]; exact wr_id (by omega) (by omega)
  have hb : ¬ IntKind.i64.wrap ((if unE n s m p q g = 0 then S (hK m p g z0) n else 0) - nd) < 0 := hb
  rw [eL] at hb
  have hE : rbE n s m p q g T nd = 0 := by unfold rbE; rw [if_neg (fun h => h h0), if_neg (by rw [hd.1, hd.2]; simp), if_neg hb]
  refine CallG.mk (Fn.mono (rbBlocks n s m p q g h0) ?_)
  rintro obs r ⟨rfl, π, hq, rfl⟩
  have hN := rM_le (m := m) (p := p) (E := rE m p g) (k := n) fun z hz => (hall z hz).1.1
  have hk0 := rb_ok h0
  have hLL : 0 ≤ S (hK m p g z0) n - nd := by omega
  generalize hLe : S (hK m p g z0) n - nd = L at *
  have hsm : ∀ e, e < oN (rM m p (rE m p g)) n → uS m p (rE m p g) n e ≤ 100000 ∧ -1000000 ≤ uQ m p q (rE m p g) n e ∧ uQ m p q (rE m p g) n e ≤ 1000000 ∧ own (rM m p (rE m p g)) n e < n := fun e he => by
    obtain ⟨k, j, i, hk, hj, hi, rfl⟩ := at3 he
    have h1 := (hall k hk).1.2.1 j hj
    have h2 := fl_b (p := p k) (x := rE m p g k) (j := j) (by omega)
    refine ⟨?_, ?_, ?_, (own_spec he).1⟩
    · unfold uS
      rw [uA_at _ hk hj hi]
      unfold rS
      rw [rJ_at hj hi]
      split <;> omega
    all_goals
      unfold uQ
      rw [uA_at _ hk hj hi, rJ_at hj hi]
      omega
  generalize hEe : rE m p g = E at *
  have e1 : T = rbD m p E n π T L 0 := by
    show T = T - min T (0 + min L 0)
    omega
  have e2 : L = rbL m p E n π T L 0 := rfl
  conv => whnf
  repeat' (first
    | (refine NilG.mk fun bn hbn => ?_; conv => whnf)
    | (refine Both.mk ?_ ?_ <;> conv => whnf)
    | exact trivial
    | (refine Br.mk (fun hb => ?_) (fun hb => ?_) <;> (first | (exfalso; revert hb; decide) | ((try simp only [BL] at hb) <;> (try simp only [DL] at hb) <;> conv => whnf)))
    | (refine And.intro ?_ ?_; (focus (first | exact id | exact rfl | exact trivial | (intro hg; first | exact hg | exact rfl | (simp; done) | (simp at hg ⊢; assumption)) | omega | decide | exact is2_c _ _ _ | exact is1_c _ _ | exact isS_c _ _ | exact isB_c _ _ | exact Nat.le_refl _ | assumption | exact mulLe (by decide) (by omega) | exact mulLe2 (by decide) (by omega) (by omega) | (intros; simp only [BL] at *; omega) | (intros; (try simp only [BL] at *); (try simp only [DL] at *); omega) | (intros; simp only [BL] at *; rw [wr_id (by omega) (by omega)]; omega) | (intro h1 h2; exact Bool.and_eq_true_iff.2 ⟨h1, h2⟩) | (intros; simp_all; done))); conv => whnf)
    | (refine Or.inr (And.intro rfl ?_); first | (refine congrArg intV ?_) | (refine congrArg boolV ?_) | (refine tupII ?_ ?_) | (refine tupIII ?_ ?_ ?_) | (refine tupU ?_ ?_ ?_ ?_ ?_) | exact rfl))
  refine sem_loop tab_ok gamRb2_ok mixed (by kernel_rfl) (O := lex) (fun b : Nat => ⟨[(1, intV (rbD m p E n π T L b)), (9, intV (rbL m p E n π T L b)), (12, .own 0), (13, intV (rbC m p q E n π T L b)), (42, .c (.sl 4 (oN (rM m p E) n) fun i j => rbCol m p q E n (π i) j)), (43, intV (oN (rM m p E) n)), (44, intV b)], [.row 3 1 n false (c1 fun k => rbX m p E n π T L k b)]⟩) (fun b => b ≤ oN (rM m p E) n) (fun b => oN (rM m p E) n - b) ⟨0, [?_], Nat.zero_le _, ?_⟩ fun b hb0 => ?_
  rotate_left 1
  · refine Sub.of ?_ ?_ ?_
    repeat' (first | (refine And.intro ?_ ?_) | exact trivial | exact fun _ _ _ => hsc _ _ | (exact congrArg intV (by first | with_reducible rfl | with_reducible assumption)) | exact (rfl : AV.idsLt _ _ = true) | exact (rfl : _ = AV.ren _ (.own _)) | exact (rfl : _ = AV.ren _ (.fn _ _)) | exact (rfl : _ = AV.ren _ (.gh _)) | (exact congrArg intV (by assumption)) | (refine congrArg intV ((wr_id (by omega) (by omega)).trans (by omega))) | exact rfl | (simp only [Int.toNat_natCast, Int.toNat_zero, Nat.sub_zero, Nat.zero_add]; first | exact rfl | done) | exact all0 | exact fun h => Bool.noConfusion h | exact fun _ _ _ _ => rfl | omega)
    · intro a ha c hc
      have hc : c < 1 := hc
      obtain rfl : c = 0 := by omega
      rfl
  clear e1 e2
  have hgl := gl_inv (lt := fun b => uF m p E n (π b)) hr.1.1 hLL (rb_pos hk0 hq.wk) b hb0
  have hlB : 0 ≤ rbL m p E n π T L b ∧ rbL m p E n π T L b ≤ L := hgl.1
  have hdB : 0 ≤ rbD m p E n π T L b ∧ rbD m p E n π T L b ≤ T := by
    have h1 := gd_nn T L (fun b => uS m p E n (π b)) (fun b => uF m p E n (π b)) b
    have h2 := gn_sum (lt := fun b => uF m p E n (π b)) hr.1.1 hLL (rb_pos hk0 hq.wk) b hb0
    have h3 := S_mono (p := gn T L (fun b => uS m p E n (π b)) fun b => uF m p E n (π b)) (i := 0) (j := b) (fun z hz => (gn_b hr.1.1 hLL (rb_pos hk0 hq.wk) (by omega)).1) (Nat.zero_le _)
    have h4 : S (gn T L (fun b => uS m p E n (π b)) fun b => uF m p E n (π b)) 0 = 0 := rfl
    unfold rbD
    omega
  have hMt : ∀ z, z < oN (rM m p E) n → 0 ≤ rbN m p E n π T L z ∧ rbN m p E n π T L z ≤ 100000 := fun z hz => by
    have h1 := gn_b (lt := fun b => uF m p E n (π b)) hr.1.1 hLL (rb_pos hk0 hq.wk) hz
    have h2 := hsm _ (hq.lt hz)
    unfold rbN
    omega
  have hM : ∀ z, z < oN (rM m p E) n → -100000000000 ≤ rbN m p E n π T L z * uQ m p q E n (π z) ∧ rbN m p E n π T L z * uQ m p q E n (π z) ≤ 100000000000 := fun z hz => by
    have h1 := hsm _ (hq.lt hz)
    have h4 := hMt z hz
    have := mulB h4.1 h4.2 h1.2.1 h1.2.2.1 (by decide)
    omega
  have hbl := fun h : b < oN (rM m p E) n => hsm _ (hq.lt h)
  have hbs := fun h : b < oN (rM m p E) n => rb_pos hk0 hq.wk b h
  have key : b < oN (rM m p E) n → ∀ nn : Int, nn = rbN m p E n π T L b → IntKind.i64.wrap (rbC m p q E n π T L b + IntKind.i64.wrap (nn * uQ m p q E n (π (b : Int).toNat))) = rbC m p q E n π T L (b + 1) ∧ IntKind.i64.wrap (rbD m p E n π T L b - nn) = rbD m p E n π T L (b + 1) ∧
      ∀ k, IntKind.i64.wrap (rbX m p E n π T L k b + nn) = rbX m p E n π T L k b + rbN m p E n π T L b := fun hbN nn e => by
    subst e
    have h1 := hM b hbN
    have h2 := S_le (p := fun z => rbN m p E n π T L z * uQ m p q E n (π z)) (k := b) (a := -100000000000) (b := 100000000000) fun z hz => hM z (by omega)
    have h4 := hMt b hbN
    have h5 : rbD m p E n π T L (b + 1) = rbD m p E n π T L b - rbN m p E n π T L b := gd_step hr.1.1 hLL (rb_pos hk0 hq.wk) hbN
    refine ⟨?_, ?_, fun k => ?_⟩
    · rw [Int.toNat_natCast, wr_id (x := rbN m p E n π T L b * uQ m p q E n (π b)) (by omega) (by omega)]
      unfold rbC
      rw [wr_id (by omega) (by omega)]
      rfl
    · rw [h5]
      exact wr_id (by omega) (by omega)
    · have hbx := S_le (p := fun z => if own (rM m p E) n (π z) = k then rbN m p E n π T L z else 0) (k := b) (a := 0) (b := 100000) fun z hz => by
        have := hMt z (by omega)
        split <;> omega
      unfold rbX
      exact wr_id (by omega) (by omega)
  conv => whnf
  repeat' (first
    | (refine NilG.mk fun bn hbn => ?_; conv => whnf)
    | (refine Both.mk ?_ ?_ <;> conv => whnf)
    | exact trivial
    | (refine Br.mk (fun hb => ?_) (fun hb => ?_) <;> (first | (exfalso; revert hb; decide) | ((try simp only [BL] at hb) <;> (try simp only [DL] at hb) <;> conv => whnf)))
    | (refine And.intro ?_ ?_; (focus (first | exact id | exact rfl | exact trivial | (intro hg; first | exact hg | exact rfl | (simp; done) | (simp at hg ⊢; assumption)) | omega | decide | exact is2_c _ _ _ | exact is1_c _ _ | exact isS_c _ _ | exact isB_c _ _ | exact Nat.le_refl _ | assumption | exact mulLe (by decide) (by omega) | exact mulLe2 (by decide) (by omega) (by omega) | (intros; simp only [BL] at *; omega) | (intros; (try simp only [BL] at *); (try simp only [DL] at *); omega) | (intros; simp only [BL] at *; rw [wr_id (by omega) (by omega)]; omega) | (intro h1 h2; exact Bool.and_eq_true_iff.2 ⟨h1, h2⟩) | (intros; simp_all; done))); conv => whnf)
    | (refine Or.inr (And.intro rfl ?_); first | (refine congrArg intV ?_) | (refine congrArg boolV ?_) | (refine tupII ?_ ?_) | (refine tupIII ?_ ?_ ?_) | (refine tupU ?_ ?_ ?_ ?_ ?_) | exact rfl))
  · have hbN : b < oN (rM m p E) n := by omega
    have hlt : uF m p E n (π b) = true := hb
    have en : min (min (rbD m p E n π T L b) (uS m p E n (π (b : Int).toNat))) (rbL m p E n π T L b) = rbN m p E n π T L b := by
      show _ = gn T L _ _ b
      unfold gn
      rw [if_pos hlt]
      rfl
    have el : IntKind.i64.wrap (rbL m p E n π T L b - min (min (rbD m p E n π T L b) (uS m p E n (π (b : Int).toNat))) (rbL m p E n π T L b)) = rbL m p E n π T L (b + 1) := by
      have e9 : rbL m p E n π T L (b + 1) = rbL m p E n π T L b - rbN m p E n π T L b := by
        have e8 : rbL m p E n π T L (b + 1) = if uF m p E n (π b) then rbL m p E n π T L b - min (min (rbD m p E n π T L b) (uS m p E n (π b))) (rbL m p E n π T L b) else rbL m p E n π T L b := rfl
        rw [e8, if_pos hlt, ← en]
        rfl
      have h4 := hMt b hbN
      rw [en, e9]
      exact wr_id (by omega) (by omega)
    obtain ⟨k1, k2, k3⟩ := key hbN _ en
    refine ⟨b + 1, [?_], by omega, by omega, ?_⟩
    rotate_left 1
    refine Sub.of ?_ ?_ ?_
    repeat' (first | (refine And.intro ?_ ?_) | exact trivial | exact fun _ _ _ => hsc _ _ | (exact congrArg intV (by first | with_reducible rfl | with_reducible assumption)) | exact (rfl : AV.idsLt _ _ = true) | exact (rfl : _ = AV.ren _ (.own _)) | exact (rfl : _ = AV.ren _ (.fn _ _)) | exact (rfl : _ = AV.ren _ (.gh _)) | (exact congrArg intV (by assumption)) | (refine congrArg intV ((wr_id (by omega) (by omega)).trans (by omega))) | exact rfl | (simp only [Int.toNat_natCast, Int.toNat_zero, Nat.sub_zero, Nat.zero_add]; first | exact rfl | done) | exact all0 | exact fun h => Bool.noConfusion h | exact fun _ _ _ _ => rfl | omega)
    intro a ha c hc
    have hc : c < 1 := hc
    obtain rfl : c = 0 := by omega
    show (if a = own (rM m p E) n (π b) then iL (IntKind.i64.wrap (rbX m p E n π T L (own (rM m p E) n (π b)) b + min (min (rbD m p E n π T L b) (uS m p E n (π (b : Int).toNat))) (rbL m p E n π T L b))) else iL (rbX m p E n π T L a b)) = iL (rbX m p E n π T L a (b + 1))
    have e : rbX m p E n π T L a (b + 1) = rbX m p E n π T L a b + (if own (rM m p E) n (π b) = a then rbN m p E n π T L b else 0) := rfl
    by_cases h : a = own (rM m p E) n (π b)
    · rw [if_pos h, e, if_pos h.symm, ← h]
      exact congrArg iL (k3 a)
    · rw [if_neg h, e, if_neg (fun hh => h hh.symm), Int.add_zero]
  · have hbN : b < oN (rM m p E) n := by omega
    have hlt : uF m p E n (π b) = false := hb
    have en : min (rbD m p E n π T L b) (uS m p E n (π (b : Int).toNat)) = rbN m p E n π T L b := by
      show _ = gn T L _ _ b
      unfold gn
      show _ = if uF m p E n (π b) = true then _ else _
      rw [hlt, if_neg (by decide)]
      rfl
    have el : rbL m p E n π T L b = rbL m p E n π T L (b + 1) := by
      have e8 : rbL m p E n π T L (b + 1) = if uF m p E n (π b) then rbL m p E n π T L b - min (min (rbD m p E n π T L b) (uS m p E n (π b))) (rbL m p E n π T L b) else rbL m p E n π T L b := rfl
      rw [e8, hlt, if_neg (by decide)]
    obtain ⟨k1, k2, k3⟩ := key hbN _ en
    refine ⟨b + 1, [?_], by omega, by omega, ?_⟩
    rotate_left 1
    refine Sub.of ?_ ?_ ?_
    repeat' (first | (refine And.intro ?_ ?_) | exact trivial | exact fun _ _ _ => hsc _ _ | (exact congrArg intV (by first | with_reducible rfl | with_reducible assumption)) | exact (rfl : AV.idsLt _ _ = true) | exact (rfl : _ = AV.ren _ (.own _)) | exact (rfl : _ = AV.ren _ (.fn _ _)) | exact (rfl : _ = AV.ren _ (.gh _)) | (exact congrArg intV (by assumption)) | (refine congrArg intV ((wr_id (by omega) (by omega)).trans (by omega))) | exact rfl | (simp only [Int.toNat_natCast, Int.toNat_zero, Nat.sub_zero, Nat.zero_add]; first | exact rfl | done) | exact all0 | exact fun h => Bool.noConfusion h | exact fun _ _ _ _ => rfl | omega)
    intro a ha c hc
    have hc : c < 1 := hc
    obtain rfl : c = 0 := by omega
    show (if a = own (rM m p E) n (π b) then iL (IntKind.i64.wrap (rbX m p E n π T L (own (rM m p E) n (π b)) b + min (rbD m p E n π T L b) (uS m p E n (π (b : Int).toNat)))) else iL (rbX m p E n π T L a b)) = iL (rbX m p E n π T L a (b + 1))
    have e : rbX m p E n π T L a (b + 1) = rbX m p E n π T L a b + (if own (rM m p E) n (π b) = a then rbN m p E n π T L b else 0) := rfl
    by_cases h : a = own (rM m p E) n (π b)
    · rw [if_pos h, e, if_pos h.symm, ← h]
      exact congrArg iL (k3 a)
    · rw [if_neg h, e, if_neg (fun hh => h hh.symm), Int.add_zero]
  · have hbN : b = oN (rM m p E) n := by omega
    refine .inr ⟨rfl, .inr ⟨hE, π, ?_⟩⟩
    rw [hEe, hLe, ← hbN]
    exact ⟨hbN ▸ hq, .inl ⟨hb, rfl⟩⟩
  · have hbN : b = oN (rM m p E) n := by omega
    refine .inr ⟨rfl, .inr ⟨hE, π, ?_⟩⟩
    rw [hEe, hLe, ← hbN]
    exact ⟨hbN ▸ hq, .inr ⟨hb, rfl⟩⟩
end Go.Proofs.Ytdakikgebfphmaa
