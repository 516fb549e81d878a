/-
  The package hours: Change.
-/
import Derived.Test.YtdakikgebfphmaaWinP
import Derived.Test.YtdakikgebfphmaaSrtE
import Derived.Test.YtdakikgebfphmaaDsp
import Derived.Test.YtdakikgebfphmaaSrt5Hbl
namespace Go.Proofs.Ytdakikgebfphmaa
open Go.RowKit

theorem gOut (n low high : Int) : Fn1 Try.prog 80 [intV n, intV low, intV high] (boolV (!inB n low high)) := by
  refine fn_of_wpx (O := lex) tab_ok (Γ := fun _ => none) (fun _ _ h => by cases h) mixed Try.func80 (by kernel_rfl) rfl rfl rfl (by simp [Try.ntmps80]) (by kernel_rfl) ?_
  conv => whnf
  repeat' (first
    | (refine NilG.mk fun bn hbn => ?_; conv => whnf)
    | (refine Both.mk ?_ ?_ <;> conv => whnf)
    | exact trivial
    | (refine Br.mk (fun hb => ?_) (fun hb => ?_) <;> (first | (exfalso; revert hb; decide) | ((try simp only [BL] at hb) <;> (try simp only [DL] at hb) <;> conv => whnf)))
    | (refine And.intro ?_ ?_; (focus (first | exact id | exact rfl | exact trivial | (intro hg; first | exact hg | exact rfl | (simp; done) | (simp at hg ⊢; assumption)) | omega | decide | exact is2_c _ _ _ | exact is1_c _ _ | exact isS_c _ _ | exact isB_c _ _ | exact Nat.le_refl _ | assumption | exact mulLe (by decide) (by omega) | exact mulLe2 (by decide) (by omega) (by omega) | (intros; simp only [BL] at *; omega) | (intros; (try simp only [BL] at *); (try simp only [DL] at *); omega) | (intros; simp only [BL] at *; rw [wr_id (by omega) (by omega)]; omega) | (intro h1 h2; exact Bool.and_eq_true_iff.2 ⟨h1, h2⟩) | (intros; simp_all; done))); conv => whnf)
    | (refine Or.inr (And.intro rfl ?_); first | (refine congrArg intV ?_) | (refine congrArg boolV ?_) | (refine tupII ?_ ?_) | (refine tupIII ?_ ?_ ?_) | (refine tupU ?_ ?_ ?_ ?_ ?_) | exact rfl))
  · show (decide (n < low) || decide (n > high)) = !(decide (n ≥ low) && decide (n ≤ high))
    rw [Bool.eq_iff_iff]
    simp only [BL]
    omega
def gamG1 : Gam := fun f => match f with
  | 80 => some (s3 fun n a b => !inB n a b)
  | 73 => some (sOl fun n s m p q => intV (offsE n s m p q))
  | 76 => some (sO (fun _ n p q => okOff n p q) fun _ n p _ => intV (S p n))
  | 74 => some (sOi (fun s n _ _ _ => s.size ≤ maxLen ∧ n ≤ maxLen) fun s n p q x => .tup [intV (if offXE s n p q x = 0 then S (ct p q x) n else 0), intV (offXE s n p q x)])
  | _ => none
theorem gamG1_ok : GOk Try.prog gamG1 := fun f g h => by
  unfold gamG1 at h
  split at h
  · injection h with h; subst h; exact s3_ok gOut
  · injection h with h; subst h; exact sOl_ok fun s m p q n h1 h2 => checkAll s m p q n h1 h2
  · injection h with h; subst h; exact sO_ok offSum
  · injection h with h; subst h; exact sOi_ok fun s n p q x hp => offCost s n p q x hp.1 hp.2
  · cases h
theorem hbCmp0 (x y u x' y' u' : Int) (h1 : -1000000 ≤ u ∧ u ≤ 1000000) (h2 : -1000000 ≤ u' ∧ u' ≤ 1000000) : Fn1 Try.prog 105 [.agg [intV x, intV y, intV u], .agg [intV x', intV y', intV u']] (intV (u - u')) := by
  refine fn_of_wpx (O := lex) tab_ok (Γ := fun _ => none) (fun _ _ h => by cases h) mixed Try.func105 (by kernel_rfl) rfl rfl rfl (by simp [Try.ntmps105]) (by kernel_rfl) ?_
  conv => whnf
  repeat' (first
    | (refine NilG.mk fun bn hbn => ?_; conv => whnf)
    | (refine Both.mk ?_ ?_ <;> conv => whnf)
    | exact trivial
    | (refine Br.mk (fun hb => ?_) (fun hb => ?_) <;> (first | (exfalso; revert hb; decide) | ((try simp only [BL] at hb) <;> (try simp only [DL] at hb) <;> conv => whnf)))
    | (refine And.intro ?_ ?_; (focus (first | exact id | exact rfl | exact trivial | (intro hg; first | exact hg | exact rfl | (simp; done) | (simp at hg ⊢; assumption)) | omega | decide | exact is2_c _ _ _ | exact is1_c _ _ | exact isS_c _ _ | exact isB_c _ _ | exact Nat.le_refl _ | assumption | exact mulLe (by decide) (by omega) | exact mulLe2 (by decide) (by omega) (by omega) | (intros; simp only [BL] at *; omega) | (intros; (try simp only [BL] at *); (try simp only [DL] at *); omega) | (intros; simp only [BL] at *; rw [wr_id (by omega) (by omega)]; omega) | (intro h1 h2; exact Bool.and_eq_true_iff.2 ⟨h1, h2⟩) | (intros; simp_all; done))); conv => whnf)
    | (refine Or.inr (And.intro rfl ?_); first | (refine congrArg intV ?_) | (refine congrArg boolV ?_) | (refine tupII ?_ ?_) | (refine tupIII ?_ ?_ ?_) | (refine tupU ?_ ?_ ?_ ?_ ?_) | exact rfl))
  · exact wr_id (by omega) (by omega)
/-- the blocks, column by column -/
def hbC (m : Nat → Nat) (p q : Nat → Nat → Int) (lo hi : Nat → Int) (n : Nat) : Nat → Nat → L := colHbl (fun e => own (wM m p lo hi) n e) (bSz (wM m p lo hi) (wP m p lo hi) n) (bSz (wM m p lo hi) (wQ m p q lo) n)
theorem hbCmp {m : Nat → Nat} {p q : Nat → Nat → Int} {lo hi : Nat → Int} {n : Nat} (h : Win m p q lo hi n) : CmpHbl 105 (hbC m p q lo hi n) (bSz (wM m p lo hi) (wQ m p q lo) n) (oN (wM m p lo hi) n) :=
  ⟨fun i j hi hj => ⟨_, hbCmp0 _ _ _ _ _ _ ⟨(h.bq hi).1, (h.bq hi).2.1⟩ ⟨(h.bq hj).1, (h.bq hj).2.1⟩, by omega⟩⟩
/-- the limits of a change -/
def hLo (x : Nat → Int) (g : Int) (k : Nat) : Int := max 0 (x k - g)
def hHi (m : Nat → Nat) (p : Nat → Nat → Int) (x : Nat → Int) (g : Int) (k : Nat) : Int := min (S (p k) (m k)) (x k + g)
def hgE (n nx : Nat) (s : Nat → ByteArray) (m : Nat → Nat) (p q : Nat → Nat → Int) (x : Nat → Int) (T g : Int) : Int :=
  if dxE n nx s m p q x ≠ 0 then dxE n nx s m p q x else if (T < 0 ∨ 1000000 < T) ∨ g < 0 ∨ 100000 < g then 1
  else if 0 ≤ T - S (hLo x g) n ∧ T - S (hLo x g) n ≤ S (wR (hLo x g) (hHi m p x g)) n then 0 else 8
theorem hWin {n nx : Nat} {s : Nat → ByteArray} {m : Nat → Nat} {p q : Nat → Nat → Int} {x : Nat → Int} {g : Int} (h : dxE n nx s m p q x = 0) (hg : 0 ≤ g) : Win m p q (hLo x g) (hHi m p x g) n ∧ nx = n ∧ offsE n s m p q = 0 ∧ (∀ k, k < n → 0 ≤ x k ∧ x k ≤ S (p k) (m k)) := by
  unfold dxE at h
  split at h
  · rename_i hh; exact absurd h hh
  · rename_i h0
    have h0 : offsE n s m p q = 0 := by simpa using h0
    split at h
    · cases h
    · rename_i h1
      obtain ⟨hn, hall⟩ := offsE_zero h0
      have hx := fun k hk => pwE_zero (fst_zero h k hk)
      refine ⟨⟨fun k hk => (hall k hk).2.1, fun k hk => (hall k hk).2.2.1, fun k hk => ?_, fun k hk => ?_, fun k hk => ?_⟩, by omega, h0, hx⟩
      · unfold hLo; omega
      · have := hx k hk
        unfold hLo hHi
        omega
      · unfold hHi; omega
def hgG (n nx : Nat) (s : Nat → ByteArray) (m : Nat → Nat) (p q : Nat → Nat → Int) (x : Nat → Int) (T g : Int) (obs : List OB) (v : AV) : Prop :=
  obs = [] ∧ ((hgE n nx s m p q x T g ≠ 0 ∧ v = .tup [.agg [.c (.v (.slice none 0 0)), intV 0], intV (hgE n nx s m p q x T g)]) ∨
    (hgE n nx s m p q x T g = 0 ∧ ∃ π, Sorted (bSz (wM m p (hLo x g) (hHi m p x g)) (wQ m p q (hLo x g)) n) π (oN (wM m p (hLo x g) (hHi m p x g)) n) ∧
      v = .tup [.agg [.c (.sl 1 n (c1 fun k => hLo x g k + wX m p (hLo x g) (hHi m p x g) n π (T - S (hLo x g) n) k - x k)),
        intV (S (wC m p q fun k => hLo x g k + wX m p (hLo x g) (hHi m p x g) n π (T - S (hLo x g) n) k) n - S (wC m p q x) n)], intV 0]))
/-- the last reading of the changes may come up behind the making of the next one -/
def ordHb : Ord := fun id => if id = 51 then some (.go 0 (.go 2 (.go 3 (.go 4 (.go 6 (.go 7 (.go 8 (.go 5 (.go 9 (.go 10 (.fork (.alt 1 (.go 11 (.go 12 (.go 13 (.go 14 (.done))))) (.alt 11 (.go 1 (.go 12 (.go 13 (.go 14 (.done))))) (.none)))))))))))))) else none
set_option maxHeartbeats 2000000 in
theorem hChange (s : Nat → ByteArray) (m : Nat → Nat) (p q : Nat → Nat → Int) (n nx : Nat) (x : Nat → Int) (T g : Int) (hn : n ≤ maxLen) (hk : ∀ k, k < n → (s k).size ≤ maxLen ∧ m k ≤ maxLen) (hnx : nx ≤ maxLen) :
    Fn Try.prog 53 [.c (.sl 2 n (cO s m p q)), .c (.sl 1 nx (c1 x)), intV T, intV g] (hgG n nx s m p q x T g) := by
  refine fn_of_wpx (O := ordHb) tab_ok gamG1_ok mixed Try.func53 (by kernel_rfl) rfl rfl rfl (by simp [Try.ntmps53]) (by kernel_rfl) ?_
  have hn' : n ≤ 9223372036854775807 := hn
  have hnx' : nx ≤ 9223372036854775807 := hnx
  conv => whnf
  repeat' (first
    | (refine NilG.mk fun bn hbn => ?_; conv => whnf)
    | (refine Both.mk ?_ ?_ <;> conv => whnf)
    | exact trivial
    | (refine Br.mk (fun hb => ?_) (fun hb => ?_) <;> (first | (exfalso; revert hb; decide) | ((try simp only [BL] at hb) <;> (try simp only [DL] at hb) <;> conv => whnf)))
    | (refine And.intro ?_ ?_; (focus (first | exact id | exact rfl | exact trivial | (intro hg; first | exact hg | exact rfl | (simp; done) | (simp at hg ⊢; assumption)) | omega | decide | exact is2_c _ _ _ | exact is1_c _ _ | exact isS_c _ _ | exact isB_c _ _ | exact Nat.le_refl _ | assumption | exact mulLe (by decide) (by omega) | exact mulLe2 (by decide) (by omega) (by omega) | (intros; simp only [BL] at *; omega) | (intros; (try simp only [BL] at *); (try simp only [DL] at *); omega) | (intros; simp only [BL] at *; rw [wr_id (by omega) (by omega)]; omega) | (intro h1 h2; exact Bool.and_eq_true_iff.2 ⟨h1, h2⟩) | exact isO_c hn hk | (intros; simp_all; done))); conv => whnf)
    | (refine Or.inr (And.intro rfl ?_); first | (refine congrArg intV ?_) | (refine congrArg boolV ?_) | (refine tupII ?_ ?_) | (refine tupIII ?_ ?_ ?_) | (refine tupU ?_ ?_ ?_ ?_ ?_) | exact rfl))
  · have h0 : ¬ offsE n s m p q = 0 := hb
    have h1 : dxE n nx s m p q x = offsE n s m p q := if_pos h0
    have h2 : hgE n nx s m p q x T g = offsE n s m p q := by unfold hgE; rw [if_pos (by rw [h1]; exact h0), h1]
    exact .inr ⟨rfl, .inl ⟨by rw [h2]; exact h0, by rw [h2]; rfl⟩⟩
  · rename_i h0
    have h0 : offsE n s m p q = 0 := h0
    have h1 : dxE n nx s m p q x = 3 := by unfold dxE; rw [if_neg (fun h => h h0), if_pos (by omega)]
    have h2 : hgE n nx s m p q x T g = 3 := by unfold hgE; rw [if_pos (by rw [h1]; decide), h1]
    exact .inr ⟨rfl, .inl ⟨by rw [h2]; decide, by rw [h2]; rfl⟩⟩
  rename_i h0
  have h0 : offsE n s m p q = 0 := h0
  obtain rfl : nx = n := by omega
  obtain ⟨hn10, hall⟩ := offsE_zero h0
  have hdx : dxE nx nx s m p q x = fst (pwE m p x) nx := by unfold dxE; rw [if_neg (fun h => h h0), if_neg (fun h => h rfl)]
  clear hb
  refine sem_loop tab_ok gamG1_ok mixed (by kernel_rfl) (O := ordHb) (fun i : Nat => ⟨[(0, .c (.sl 2 nx (cO s m p q))), (1, .c (.sl 1 nx (c1 x))), (2, intV T), (3, intV g), (8, .lp 0 0), (10, .lp 1 0), (47, .c (.sl 2 nx (cO s m p q))), (48, intV nx), (49, intV i)], [.box [.c (.v (.slice none 0 0)), intV 0], .box [.c (.v (.slice none 0 0)), intV 0]]⟩) (fun i => i ≤ nx ∧ fst (pwE m p x) i = 0) (fun i => nx - i) ⟨0, [?_, ?_], ⟨Nat.zero_le _, rfl⟩, ?_⟩ fun i hi => ?_
  rotate_left 2
  · refine Sub.of ?_ ?_ ?_
    repeat' (first | (refine And.intro ?_ ?_) | exact trivial | exact fun _ _ _ => hsc _ _ | (exact congrArg intV (by first | with_reducible rfl | with_reducible assumption)) | exact (rfl : AV.idsLt _ _ = true) | exact (rfl : _ = AV.ren _ (.own _)) | exact (rfl : _ = AV.ren _ (.fn _ _)) | exact (rfl : _ = AV.ren _ (.gh _)) | (exact congrArg intV (by assumption)) | (refine congrArg intV ((wr_id (by omega) (by omega)).trans (by omega))) | exact rfl | (simp only [Int.toNat_natCast, Int.toNat_zero, Nat.sub_zero, Nat.zero_add]; first | exact rfl | done) | exact all0 | exact fun h => Bool.noConfusion h | exact fun _ _ _ _ => rfl | omega)
  have hoi := fun (h : i < nx) => (hall i h).2.1
  conv => whnf
  repeat' (first
    | (refine NilG.mk fun bn hbn => ?_; conv => whnf)
    | (refine Both.mk ?_ ?_ <;> conv => whnf)
    | exact trivial
    | (refine Br.mk (fun hb => ?_) (fun hb => ?_) <;> (first | (exfalso; revert hb; decide) | ((try simp only [BL] at hb) <;> (try simp only [DL] at hb) <;> conv => whnf)))
    | (refine And.intro ?_ ?_; (focus (first | exact id | exact rfl | exact trivial | (intro hg; first | exact hg | exact rfl | (simp; done) | (simp at hg ⊢; assumption)) | omega | decide | exact is2_c _ _ _ | exact is1_c _ _ | exact isS_c _ _ | exact isB_c _ _ | exact Nat.le_refl _ | assumption | exact mulLe (by decide) (by omega) | exact mulLe2 (by decide) (by omega) (by omega) | (intros; simp only [BL] at *; omega) | (intros; (try simp only [BL] at *); (try simp only [DL] at *); omega) | (intros; simp only [BL] at *; rw [wr_id (by omega) (by omega)]; omega) | (intro h1 h2; exact Bool.and_eq_true_iff.2 ⟨h1, h2⟩) | exact ⟨is2_c _ _ _, hoi (by omega)⟩ | (intros; simp_all; done))); conv => whnf)
    | (refine Or.inr (And.intro rfl ?_); first | (refine congrArg intV ?_) | (refine congrArg boolV ?_) | (refine tupII ?_ ?_) | (refine tupIII ?_ ?_ ?_) | (refine tupU ?_ ?_ ?_ ?_ ?_) | exact rfl))
  · have hin : i < nx := by omega
    have h4 : pwE m p x i = 4 := by unfold pwE; rw [if_pos (by omega)]
    have h1 : dxE nx nx s m p q x = 4 := by rw [hdx, fst_at hi.2 (by rw [h4]; decide) hin, h4]
    have h2 : hgE nx nx s m p q x T g = 4 := by unfold hgE; rw [if_pos (by rw [h1]; decide), h1]
    exact .inr ⟨rfl, .inl ⟨by rw [h2]; decide, by rw [h2]; rfl⟩⟩
  · have h4 : pwE m p x i = 0 := by unfold pwE; rw [if_neg (by omega)]
    refine ⟨i + 1, [?_, ?_], ⟨by omega, fst_next hi.2 h4⟩, by omega, ?_⟩
    rotate_left 2
    refine Sub.of ?_ ?_ ?_
    repeat' (first | (refine And.intro ?_ ?_) | exact trivial | exact fun _ _ _ => hsc _ _ | (exact congrArg intV (by first | with_reducible rfl | with_reducible assumption)) | exact (rfl : AV.idsLt _ _ = true) | exact (rfl : _ = AV.ren _ (.own _)) | exact (rfl : _ = AV.ren _ (.fn _ _)) | exact (rfl : _ = AV.ren _ (.gh _)) | (exact congrArg intV (by assumption)) | (refine congrArg intV ((wr_id (by omega) (by omega)).trans (by omega))) | exact rfl | (simp only [Int.toNat_natCast, Int.toNat_zero, Nat.sub_zero, Nat.zero_add]; first | exact rfl | done) | exact all0 | exact fun h => Bool.noConfusion h | exact fun _ _ _ _ => rfl | omega)
  · obtain rfl : i = nx := by omega
    have h1 : dxE i i s m p q x = 0 := hdx.trans hi.2
    have h2 : hgE i i s m p q x T g = 1 := by unfold hgE; rw [if_neg (fun h => h h1), if_pos (by omega)]
    exact .inr ⟨rfl, .inl ⟨by rw [h2]; decide, by rw [h2]; rfl⟩⟩
  obtain rfl : i = nx := by omega
  have h1 : dxE i i s m p q x = 0 := hdx.trans hi.2
  have hTg : (0 ≤ T ∧ T ≤ 1000000) ∧ 0 ≤ g ∧ g ≤ 100000 := by omega
  obtain ⟨hw, _, _, hx⟩ := hWin h1 hTg.2.1
  have hE : hgE i i s m p q x T g = if 0 ≤ T - S (hLo x g) i ∧ T - S (hLo x g) i ≤ S (wR (hLo x g) (hHi m p x g)) i then 0 else 8 := by unfold hgE; rw [if_neg (fun h => h h1), if_neg (by omega)]
  have hLk : ∀ k, hLo x g k = max 0 (x k - g) := fun _ => rfl
  have hHk : ∀ k, hHi m p x g k = min (S (p k) (m k)) (x k + g) := fun _ => rfl
  generalize hlo : hLo x g = lo at *
  generalize hhi : hHi m p x g = hi' at *
  have hsc := scHbl (fun e => own (wM m p lo hi') i e) (bSz (wM m p lo hi') (wP m p lo hi') i) (bSz (wM m p lo hi') (wQ m p q lo) i)
  have hrb := fun k (hk : k ≤ i) => hw.rb hk
  clear hb hi hoi hdx
  have e0 : T = T - S lo 0 := (Int.sub_zero T).symm
  refine LoopG.nil 15 160 3 rfl ?_
  refine sem_loop tab_ok gamG1_ok mixed (by kernel_rfl) (O := ordHb) (fun k : Nat => ⟨[(0, .c (.sl 2 i (cO s m p q))), (1, .c (.sl 1 i (c1 x))), (2, intV (T - S lo k)), (3, intV g), (8, .lp 0 0), (10, .lp 1 0), (14, .own 2), (15, .own 3), (73, .c (.sl 2 i (cO s m p q))), (74, intV i), (75, intV k)], [.box [.c (.v (.slice none 0 0)), intV 0], .box [.c (.v (.slice none 0 0)), intV 0], .row 3 1 i false (c1 fun z => if z < k then lo z else 0), rowHbl (oN (wM m p lo hi') k) (hbC m p q lo hi' i) id]⟩) (fun k => k ≤ i) (fun k => i - k) ⟨0, [?_, ?_, ?_, ?_], Nat.zero_le _, ?_⟩ fun k hki => ?_
  rotate_left 4
  · refine Sub.of ?_ ?_ ?_
    repeat' (first | (refine And.intro ?_ ?_) | exact trivial | exact fun _ _ _ => hsc _ _ | (exact congrArg intV (by first | with_reducible rfl | with_reducible assumption)) | exact (rfl : AV.idsLt _ _ = true) | exact (rfl : _ = AV.ren _ (.own _)) | exact (rfl : _ = AV.ren _ (.fn _ _)) | exact (rfl : _ = AV.ren _ (.gh _)) | (exact congrArg intV (by assumption)) | (refine congrArg intV ((wr_id (by omega) (by omega)).trans (by omega))) | exact rfl | (simp only [Int.toNat_natCast, Int.toNat_zero, Nat.sub_zero, Nat.zero_add]; first | exact rfl | done) | exact all0 | exact fun h => Bool.noConfusion h | exact fun _ _ _ _ => rfl | omega)
    · intro a ha b hb1
      have hb1 : b < 1 := hb1
      obtain rfl : b = 0 := by omega
      show iL 0 = iL (if a < 0 then lo a else 0)
      rw [if_neg (Nat.not_lt_zero _)]
  clear e0
  have hok := fun (h : k < i) => hw.ok k h
  have hxk := hx k
  have hck := hw.cap k
  have w1 : k < i → IntKind.i64.wrap (x k - g) = x k - g := fun h => wr_id (by have := hxk h; have := hck h; omega) (by have := hxk h; have := hck h; omega)
  have w2 : k < i → IntKind.i64.wrap (x k + g) = x k + g := fun h => wr_id (by have := hxk h; have := hck h; omega) (by have := hxk h; have := hck h; omega)
  conv => whnf
  repeat' (first
    | (refine NilG.mk fun bn hbn => ?_; conv => whnf)
    | (refine Both.mk ?_ ?_ <;> conv => whnf)
    | exact trivial
    | (refine Br.mk (fun hb => ?_) (fun hb => ?_) <;> (first | (exfalso; revert hb; decide) | ((try simp only [BL] at hb) <;> (try simp only [DL] at hb) <;> conv => whnf)))
    | (refine And.intro ?_ ?_; (focus (first | exact id | exact rfl | exact trivial | (intro hg; first | exact hg | exact rfl | (simp; done) | (simp at hg ⊢; assumption)) | omega | decide | exact is2_c _ _ _ | exact is1_c _ _ | exact isS_c _ _ | exact isB_c _ _ | exact Nat.le_refl _ | assumption | exact mulLe (by decide) (by omega) | exact mulLe2 (by decide) (by omega) (by omega) | (intros; simp only [BL] at *; omega) | (intros; (try simp only [BL] at *); (try simp only [DL] at *); omega) | (intros; simp only [BL] at *; rw [wr_id (by omega) (by omega)]; omega) | (intro h1 h2; exact Bool.and_eq_true_iff.2 ⟨h1, h2⟩) | exact ⟨is2_c _ _ _, hok (by omega)⟩ | (intros; simp_all; done))); conv => whnf)
    | (refine Or.inr (And.intro rfl ?_); first | (refine congrArg intV ?_) | (refine congrArg boolV ?_) | (refine tupII ?_ ?_) | (refine tupIII ?_ ?_ ?_) | (refine tupU ?_ ?_ ?_ ?_ ?_) | exact rfl))
  · have hki2 : k < i := by omega
    have hok := hok hki2
    have hxk := hxk hki2
    have hck := hck hki2
    have w1 := w1 hki2
    have w2 := w2 hki2
    have hpk := hw.pos hki2
    have eL : max 0 (IntKind.i64.wrap (x k - g)) = lo k := by rw [w1, hLk]
    have eH : min (S (p k) (m k)) (IntKind.i64.wrap (x k + g)) = hi' k := by rw [w2, hHk]
    have hr0 := hrb k hki
    have hr1 := hrb (k + 1) hki2
    have hS1 : S lo (k + 1) = S lo k + lo k := rfl
    have eT : IntKind.i64.wrap (T - S lo k - max 0 (IntKind.i64.wrap (x k - g))) = T - S lo (k + 1) := by
      rw [eL, hS1, wr_id (by omega) (by omega)]
      omega
    obtain ⟨n0, n1⟩ := hw.ends hki2
    have e0 : oN (wM m p lo hi') k = oN (wM m p lo hi') k + wN m p lo hi' k 0 := by rw [n0, Nat.add_zero]
    have hN := hw.on k hki
    have hM := hw.m12 hki2
    have g2 := hw.lo0 k hki2
    have g3 := hw.le k hki2
    have g4 := hw.hi1 k hki2
    have hstep := fun j (h : j < m k) => hw.step hki2 h
    clear hb
    refine sem_loop tab_ok gamG1_ok mixed (by kernel_rfl) (O := ordHb) (fun j : Nat => ⟨[(0, .c (.sl 2 i (cO s m p q))), (1, .c (.sl 1 i (c1 x))), (2, intV (T - S lo (k + 1))), (3, intV g), (8, .lp 0 0), (10, .lp 1 0), (14, .own 2), (15, .own 3), (16, intV k), (18, intV (lo k)), (19, intV (hi' k)), (20, intV (S (p k) j)), (73, .c (.sl 2 i (cO s m p q))), (74, intV i), (75, intV k), (104, .c (.sl 2 (m k) (c2 (p k) (q k)))), (105, intV (m k)), (106, intV j)], [.box [.c (.v (.slice none 0 0)), intV 0], .box [.c (.v (.slice none 0 0)), intV 0], .row 3 1 i false (c1 fun z => if z < k + 1 then lo z else 0), rowHbl (oN (wM m p lo hi') k + wN m p lo hi' k j) (hbC m p q lo hi' i) id]⟩) (fun j => j ≤ m k) (fun j => m k - j) ⟨0, [?_, ?_, ?_, ?_], Nat.zero_le _, ?_⟩ fun j hj => ?_
    rotate_left 4
    · refine Sub.of ?_ ?_ ?_
      repeat' (first | (refine And.intro ?_ ?_) | exact trivial | exact fun _ _ _ => hsc _ _ | (exact congrArg intV (by first | with_reducible rfl | with_reducible assumption)) | exact (rfl : AV.idsLt _ _ = true) | exact (rfl : _ = AV.ren _ (.own _)) | exact (rfl : _ = AV.ren _ (.fn _ _)) | exact (rfl : _ = AV.ren _ (.gh _)) | (exact congrArg intV (by assumption)) | (refine congrArg intV ((wr_id (by omega) (by omega)).trans (by omega))) | exact rfl | (simp only [Int.toNat_natCast, Int.toNat_zero, Nat.sub_zero, Nat.zero_add]; first | exact rfl | done) | exact all0 | exact fun h => Bool.noConfusion h | exact fun _ _ _ _ => rfl | omega)
      · intro a ha b hb1
        obtain rfl : b = 0 := by omega
        show (if a = k then iL (max 0 (IntKind.i64.wrap (x k - g))) else iL (if a < k then lo a else 0)) = iL (if a < k + 1 then lo a else 0)
        by_cases h : a = k
        · rw [if_pos h, if_pos (show a < k + 1 by omega), h, eL]
        · rw [if_neg h]
          by_cases h2 : a < k
          · rw [if_pos h2, if_pos (show a < k + 1 by omega)]
          · rw [if_neg h2, if_neg (by omega)]
    clear e0 eT eL eH
    have hst := hstep j
    have hSj := fun (h : j + 1 ≤ m k) => hok.S0 h
    have hSj0 := hok.S0 hj
    have hpj := hpk j
    have w3 : j < m k → IntKind.i64.wrap (S (p k) j + p k j) = S (p k) (j + 1) := fun h => by
      have := hSj h
      have e : S (p k) (j + 1) = S (p k) j + p k j := rfl
      rw [e] at this ⊢
      exact wr_id (by omega) (by omega)
    have hcN := wN_le (m := m) (p := p) (lo := lo) (hi := hi') (k := k) j
    conv => whnf
    repeat' (first
      | (refine NilG.mk fun bn hbn => ?_; conv => whnf)
      | (refine Both.mk ?_ ?_ <;> conv => whnf)
      | exact trivial
      | (refine Br.mk (fun hb => ?_) (fun hb => ?_) <;> (first | (exfalso; revert hb; decide) | ((try simp only [BL] at hb) <;> (try simp only [DL] at hb) <;> conv => whnf)))
      | (refine And.intro ?_ ?_; (focus (first | exact id | exact rfl | exact trivial | (intro hg; first | exact hg | exact rfl | (simp; done) | (simp at hg ⊢; assumption)) | omega | decide | exact is2_c _ _ _ | exact is1_c _ _ | exact isS_c _ _ | exact isB_c _ _ | exact Nat.le_refl _ | assumption | exact mulLe (by decide) (by omega) | exact mulLe2 (by decide) (by omega) (by omega) | (intros; simp only [BL] at *; omega) | (intros; (try simp only [BL] at *); (try simp only [DL] at *); omega) | (intros; simp only [BL] at *; rw [wr_id (by omega) (by omega)]; omega) | (intro h1 h2; exact Bool.and_eq_true_iff.2 ⟨h1, h2⟩) | (intros; simp_all; done))); conv => whnf)
      | (refine Or.inr (And.intro rfl ?_); first | (refine congrArg intV ?_) | (refine congrArg boolV ?_) | (refine tupII ?_ ?_) | (refine tupIII ?_ ?_ ?_) | (refine tupU ?_ ?_ ?_ ?_ ?_) | exact rfl))
    · have hjm : j < m k := by omega
      have w3 := w3 hjm
      have hSj := hSj hjm
      obtain ⟨hst1, _⟩ := hst hjm
      have w4 : IntKind.i64.wrap (min (hi' k) (IntKind.i64.wrap (S (p k) j + p k j)) - max (lo k) (S (p k) j)) = min (hi' k) (S (p k) (j + 1)) - max (lo k) (S (p k) j) := by
        rw [w3]
        exact wr_id (by omega) (by omega)
      rw [w4] at hb
      obtain ⟨s1, s2, s3, s4⟩ := hst1 hb
      have b0 := own_at (m := wM m p lo hi') s2 hki2
      have b1 := bSz_at (p := wP m p lo hi') hki2 s2
      have b2 := bSz_at (p := wQ m p q lo) hki2 s2
      rw [s3, ← w4] at b1
      rw [s4] at b2
      have e5 : oN (wM m p lo hi') k + wN m p lo hi' k j + 1 = oN (wM m p lo hi') k + wN m p lo hi' k (j + 1) := by omega
      refine ⟨j + 1, [?_, ?_, ?_, ?_], by omega, by omega, ?_⟩
      rotate_left 4
      refine Sub.of ?_ ?_ ?_
      repeat' (first | (refine And.intro ?_ ?_) | exact trivial | exact fun _ _ _ => hsc _ _ | (exact congrArg intV (by first | with_reducible rfl | with_reducible assumption)) | exact (rfl : AV.idsLt _ _ = true) | exact (rfl : _ = AV.ren _ (.own _)) | exact (rfl : _ = AV.ren _ (.fn _ _)) | exact (rfl : _ = AV.ren _ (.gh _)) | (exact congrArg intV (by assumption)) | (refine congrArg intV ((wr_id (by omega) (by omega)).trans (by omega))) | exact rfl | (simp only [Int.toNat_natCast, Int.toNat_zero, Nat.sub_zero, Nat.zero_add]; first | exact rfl | done) | exact all0 | exact fun h => Bool.noConfusion h | exact fun _ _ _ _ => rfl | omega)
      intro aq haq bq hbq
      by_cases hltq : aq < oN (wM m p lo hi') k + wN m p lo hi' k j
      · exact if_pos hltq
      · obtain rfl : aq = oN (wM m p lo hi') k + wN m p lo hi' k j := by omega
        refine (if_neg hltq).trans ?_
        rw [Nat.sub_self]
        revert bq hbq
        refine all3 (congrArg (fun z : Nat => iL (z : Int)) b0.symm) (congrArg iL b1.symm) (congrArg iL b2.symm)
    · have hjm : j < m k := by omega
      have w3 := w3 hjm
      have hSj := hSj hjm
      obtain ⟨_, hst2⟩ := hst hjm
      have w4 : IntKind.i64.wrap (min (hi' k) (IntKind.i64.wrap (S (p k) j + p k j)) - max (lo k) (S (p k) j)) = min (hi' k) (S (p k) (j + 1)) - max (lo k) (S (p k) j) := by
        rw [w3]
        exact wr_id (by omega) (by omega)
      rw [w4] at hb
      have s1 := hst2 hb
      have e5 : oN (wM m p lo hi') k + wN m p lo hi' k j = oN (wM m p lo hi') k + wN m p lo hi' k (j + 1) := by omega
      refine ⟨j + 1, [?_, ?_, ?_, ?_], by omega, by omega, ?_⟩
      rotate_left 4
      refine Sub.of ?_ ?_ ?_
      repeat' (first | (refine And.intro ?_ ?_) | exact trivial | exact fun _ _ _ => hsc _ _ | (exact congrArg intV (by first | with_reducible rfl | with_reducible assumption)) | exact (rfl : AV.idsLt _ _ = true) | exact (rfl : _ = AV.ren _ (.own _)) | exact (rfl : _ = AV.ren _ (.fn _ _)) | exact (rfl : _ = AV.ren _ (.gh _)) | (exact congrArg intV (by assumption)) | (refine congrArg intV ((wr_id (by omega) (by omega)).trans (by omega))) | exact rfl | (simp only [Int.toNat_natCast, Int.toNat_zero, Nat.sub_zero, Nat.zero_add]; first | exact rfl | done) | exact all0 | exact fun h => Bool.noConfusion h | exact fun _ _ _ _ => rfl | omega)
    · have hjm : j = m k := by omega
      have e5 : oN (wM m p lo hi') k + wN m p lo hi' k j = oN (wM m p lo hi') (k + 1) := by
        rw [hjm, n1]
        rfl
      refine ⟨k + 1, [?_, ?_, ?_, ?_], by omega, by omega, ?_⟩
      rotate_left 4
      refine Sub.of ?_ ?_ ?_
      repeat' (first | (refine And.intro ?_ ?_) | exact trivial | exact fun _ _ _ => hsc _ _ | (exact congrArg intV (by first | with_reducible rfl | with_reducible assumption)) | exact (rfl : AV.idsLt _ _ = true) | exact (rfl : _ = AV.ren _ (.own _)) | exact (rfl : _ = AV.ren _ (.fn _ _)) | exact (rfl : _ = AV.ren _ (.gh _)) | (exact congrArg intV (by assumption)) | (refine congrArg intV ((wr_id (by omega) (by omega)).trans (by omega))) | exact rfl | (simp only [Int.toNat_natCast, Int.toNat_zero, Nat.sub_zero, Nat.zero_add]; first | exact rfl | done) | exact all0 | exact fun h => Bool.noConfusion h | exact fun _ _ _ _ => rfl | omega)
  · obtain rfl : k = i := by omega
    subst hlo hhi
    have hE8 : hgE k k s m p q x T g = 8 := by rw [hE, if_neg (by omega)]
    exact .inr ⟨rfl, .inl ⟨by rw [hE8]; decide, by rw [hE8]; rfl⟩⟩
  obtain rfl : k = i := by omega
  have hN := hw.on k (Nat.le_refl _)
  have hDlo : 0 ≤ T - S lo k := by omega
  have hri := hrb k (Nat.le_refl _)
  generalize hT9 : T - S lo k = D at *
  refine CallG.wr [3] rfl (FnM.mono (sortHbl (hbCmp hw) (by omega)) ?_)
  rintro obs r ⟨π, hq, rfl, rfl⟩
  conv => whnf
  repeat' (first
    | (refine NilG.mk fun bn hbn => ?_; conv => whnf)
    | (refine Both.mk ?_ ?_ <;> conv => whnf)
    | exact trivial
    | (refine Br.mk (fun hb => ?_) (fun hb => ?_) <;> (first | (exfalso; revert hb; decide) | ((try simp only [BL] at hb) <;> (try simp only [DL] at hb) <;> conv => whnf)))
    | (refine And.intro ?_ ?_; (focus (first | exact id | exact rfl | exact trivial | (intro hg; first | exact hg | exact rfl | (simp; done) | (simp at hg ⊢; assumption)) | omega | decide | exact is2_c _ _ _ | exact is1_c _ _ | exact isS_c _ _ | exact isB_c _ _ | exact Nat.le_refl _ | assumption | exact mulLe (by decide) (by omega) | exact mulLe2 (by decide) (by omega) (by omega) | (intros; simp only [BL] at *; omega) | (intros; (try simp only [BL] at *); (try simp only [DL] at *); omega) | (intros; simp only [BL] at *; rw [wr_id (by omega) (by omega)]; omega) | (intro h1 h2; exact Bool.and_eq_true_iff.2 ⟨h1, h2⟩) | (intros; simp_all; done))); conv => whnf)
    | (refine Or.inr (And.intro rfl ?_); first | (refine congrArg intV ?_) | (refine congrArg boolV ?_) | (refine tupII ?_ ?_) | (refine tupIII ?_ ?_ ?_) | (refine tupU ?_ ?_ ?_ ?_ ?_) | exact rfl))
  have hB2 := hw.blks hq
  have hcz : ∀ z, z ≤ oN (wM m p lo hi') k → 0 ≤ bCum (wM m p lo hi') (wP m p lo hi') k π z := fun z hz => hB2.cum_mono (a := 0) (b := z) (Nat.zero_le _) hz
  have hMt : ∀ z, z < oN (wM m p lo hi') k → 0 ≤ bTk (wM m p lo hi') (wP m p lo hi') k π D z ∧ bTk (wM m p lo hi') (wP m p lo hi') k π D z ≤ 100000 := fun z hz => by
    have h1 := hw.bq (hq.lt hz)
    have h2 := hcz z (by omega)
    have h3 : bCum (wM m p lo hi') (wP m p lo hi') k π (z + 1) = bCum (wM m p lo hi') (wP m p lo hi') k π z + bSz (wM m p lo hi') (wP m p lo hi') k (π z) := rfl
    unfold bTk
    omega
  have e0 : D = D - min D (bCum (wM m p lo hi') (wP m p lo hi') k π 0) := by
    show D = D - min D 0
    omega
  refine sem_loop tab_ok gamG1_ok mixed (by kernel_rfl) (O := ordHb) (fun b : Nat => ⟨[(0, .c (.sl 2 k (cO s m p q))), (1, .c (.sl 1 k (c1 x))), (2, intV (D - min D (bCum (wM m p lo hi') (wP m p lo hi') k π b))), (8, .lp 0 0), (10, .lp 1 0), (14, .own 2), (141, .own 3), (142, intV (oN (wM m p lo hi') k : Nat)), (143, intV b)], [.box [.c (.v (.slice none 0 0)), intV 0], .box [.c (.v (.slice none 0 0)), intV 0], .row 3 1 k false (c1 fun z => lo z + bX (wM m p lo hi') (wP m p lo hi') k π D z b), rowHbl (oN (wM m p lo hi') k) (hbC m p q lo hi' k) π]⟩) (fun b => b ≤ oN (wM m p lo hi') k) (fun b => oN (wM m p lo hi') k - b) ⟨0, [?_, ?_, ?_, ?_], Nat.zero_le _, ?_⟩ fun b hb0 => ?_
  rotate_left 4
  · refine Sub.of ?_ ?_ ?_
    repeat' (first | (refine And.intro ?_ ?_) | exact trivial | exact fun _ _ _ => hsc _ _ | (exact congrArg intV (by first | with_reducible rfl | with_reducible assumption)) | exact (rfl : AV.idsLt _ _ = true) | exact (rfl : _ = AV.ren _ (.own _)) | exact (rfl : _ = AV.ren _ (.fn _ _)) | exact (rfl : _ = AV.ren _ (.gh _)) | (exact congrArg intV (by assumption)) | (refine congrArg intV ((wr_id (by omega) (by omega)).trans (by omega))) | exact rfl | (simp only [Int.toNat_natCast, Int.toNat_zero, Nat.sub_zero, Nat.zero_add]; first | exact rfl | done) | exact all0 | exact fun h => Bool.noConfusion h | exact fun _ _ _ _ => rfl | omega)
    · intro a ha c hc
      have hc : c < 1 := hc
      obtain rfl : c = 0 := by omega
      show iL (if a < k then lo a else 0) = iL (lo a + 0)
      rw [if_pos ha, Int.add_zero]
  clear e0
  have hbN := fun h : b < oN (wM m p lo hi') k => hq.lt h
  have hown := fun h : b < oN (wM m p lo hi') k => own_spec (hq.lt h)
  conv => whnf
  repeat' (first
    | (refine NilG.mk fun bn hbn => ?_; conv => whnf)
    | (refine Both.mk ?_ ?_ <;> conv => whnf)
    | exact trivial
    | (refine Br.mk (fun hb => ?_) (fun hb => ?_) <;> (first | (exfalso; revert hb; decide) | ((try simp only [BL] at hb) <;> (try simp only [DL] at hb) <;> conv => whnf)))
    | (refine And.intro ?_ ?_; (focus (first | exact id | exact rfl | exact trivial | (intro hg; first | exact hg | exact rfl | (simp; done) | (simp at hg ⊢; assumption)) | omega | decide | exact is2_c _ _ _ | exact is1_c _ _ | exact isS_c _ _ | exact isB_c _ _ | exact Nat.le_refl _ | assumption | exact mulLe (by decide) (by omega) | exact mulLe2 (by decide) (by omega) (by omega) | (intros; simp only [BL] at *; omega) | (intros; (try simp only [BL] at *); (try simp only [DL] at *); omega) | (intros; simp only [BL] at *; rw [wr_id (by omega) (by omega)]; omega) | (intro h1 h2; exact Bool.and_eq_true_iff.2 ⟨h1, h2⟩) | (intros; simp_all; done))); conv => whnf)
    | (refine Or.inr (And.intro rfl ?_); first | (refine congrArg intV ?_) | (refine congrArg boolV ?_) | (refine tupII ?_ ?_) | (refine tupIII ?_ ?_ ?_) | (refine tupU ?_ ?_ ?_ ?_ ?_) | exact rfl))
  · have hbl : b < oN (wM m p lo hi') k := by omega
    clear hb
    have ho := hown hbl
    refine And.intro ⟨rfl, by rw [Int.toNat_natCast]; exact hbl, by decide⟩ ?_
    have hqb := hw.bq (hq.lt hbl)
    have hc0 := hcz b hb0
    have hc1 : bCum (wM m p lo hi') (wP m p lo hi') k π (b + 1) = bCum (wM m p lo hi') (wP m p lo hi') k π b + bSz (wM m p lo hi') (wP m p lo hi') k (π b) := rfl
    have htk : min (D - min D (bCum (wM m p lo hi') (wP m p lo hi') k π b)) (bSz (wM m p lo hi') (wP m p lo hi') k (π (b : Int).toNat)) = bTk (wM m p lo hi') (wP m p lo hi') k π D b := by
      show min (D - min D (bCum (wM m p lo hi') (wP m p lo hi') k π b)) (bSz (wM m p lo hi') (wP m p lo hi') k (π b)) = _
      unfold bTk
      omega
    have htb := hMt b hbl
    have hl1 : IntKind.i64.wrap (D - min D (bCum (wM m p lo hi') (wP m p lo hi') k π b) - min (D - min D (bCum (wM m p lo hi') (wP m p lo hi') k π b)) (bSz (wM m p lo hi') (wP m p lo hi') k (π (b : Int).toNat))) = D - min D (bCum (wM m p lo hi') (wP m p lo hi') k π (b + 1)) := by
      rw [htk, wr_id (by omega) (by omega)]
      unfold bTk
      omega
    conv => whnf
    repeat' (first
      | (refine NilG.mk fun bn hbn => ?_; conv => whnf)
      | (refine Both.mk ?_ ?_ <;> conv => whnf)
      | exact trivial
      | (refine Br.mk (fun hb => ?_) (fun hb => ?_) <;> (first | (exfalso; revert hb; decide) | ((try simp only [BL] at hb) <;> (try simp only [DL] at hb) <;> conv => whnf)))
      | (refine And.intro ?_ ?_; (focus (first | exact id | exact rfl | exact trivial | (intro hg; first | exact hg | exact rfl | (simp; done) | (simp at hg ⊢; assumption)) | omega | decide | exact is2_c _ _ _ | exact is1_c _ _ | exact isS_c _ _ | exact isB_c _ _ | exact Nat.le_refl _ | assumption | exact mulLe (by decide) (by omega) | exact mulLe2 (by decide) (by omega) (by omega) | (intros; simp only [BL] at *; omega) | (intros; (try simp only [BL] at *); (try simp only [DL] at *); omega) | (intros; simp only [BL] at *; rw [wr_id (by omega) (by omega)]; omega) | (intro h1 h2; exact Bool.and_eq_true_iff.2 ⟨h1, h2⟩) | (intros; simp_all; done))); conv => whnf)
      | (refine Or.inr (And.intro rfl ?_); first | (refine congrArg intV ?_) | (refine congrArg boolV ?_) | (refine tupII ?_ ?_) | (refine tupIII ?_ ?_ ?_) | (refine tupU ?_ ?_ ?_ ?_ ?_) | exact rfl))
    · refine ⟨b + 1, [?_, ?_, ?_, ?_], by omega, by omega, ?_⟩
      rotate_left 4
      refine Sub.of ?_ ?_ ?_
      repeat' (first | (refine And.intro ?_ ?_) | exact trivial | exact fun _ _ _ => hsc _ _ | (exact congrArg intV (by first | with_reducible rfl | with_reducible assumption)) | exact (rfl : AV.idsLt _ _ = true) | exact (rfl : _ = AV.ren _ (.own _)) | exact (rfl : _ = AV.ren _ (.fn _ _)) | exact (rfl : _ = AV.ren _ (.gh _)) | (exact congrArg intV (by assumption)) | (refine congrArg intV ((wr_id (by omega) (by omega)).trans (by omega))) | exact rfl | (simp only [Int.toNat_natCast, Int.toNat_zero, Nat.sub_zero, Nat.zero_add]; first | exact rfl | done) | exact all0 | exact fun h => Bool.noConfusion h | exact fun _ _ _ _ => rfl | omega)
      intro a ha c hc9
      obtain rfl : c = 0 := by omega
      have hbx := S_le (p := fun z => if own (wM m p lo hi') k (π z) = own (wM m p lo hi') k (π b) then bTk (wM m p lo hi') (wP m p lo hi') k π D z else 0) (k := b) (a := 0) (b := 100000) fun z hz => by
        have := hMt z (by omega)
        split <;> omega
      have hbx : 0 * (b : Int) ≤ bX (wM m p lo hi') (wP m p lo hi') k π D (own (wM m p lo hi') k (π b)) b ∧ bX (wM m p lo hi') (wP m p lo hi') k π D (own (wM m p lo hi') k (π b)) b ≤ 100000 * b := hbx
      have hl0 := hw.lo0 _ ho.1
      have hl2 := hw.le _ ho.1
      have hl3 := hw.hi1 _ ho.1
      have hl4 := hw.cap _ ho.1
      have e : bX (wM m p lo hi') (wP m p lo hi') k π D a (b + 1) = bX (wM m p lo hi') (wP m p lo hi') k π D a b + (if own (wM m p lo hi') k (π b) = a then bTk (wM m p lo hi') (wP m p lo hi') k π D b else 0) := rfl
      show (if a = own (wM m p lo hi') k (π b) then iL (IntKind.i64.wrap (lo (own (wM m p lo hi') k (π b)) + bX (wM m p lo hi') (wP m p lo hi') k π D (own (wM m p lo hi') k (π b)) b + min (D - min D (bCum (wM m p lo hi') (wP m p lo hi') k π b)) (bSz (wM m p lo hi') (wP m p lo hi') k (π (b : Int).toNat)))) else iL (lo a + bX (wM m p lo hi') (wP m p lo hi') k π D a b)) = iL (lo a + bX (wM m p lo hi') (wP m p lo hi') k π D a (b + 1))
      rw [htk, e]
      by_cases h : a = own (wM m p lo hi') k (π b)
      · rw [if_pos h, if_pos h.symm, h, wr_id (by omega) (by omega), Int.add_assoc]
      · have e9 : (if own (wM m p lo hi') k (π b) = a then bTk (wM m p lo hi') (wP m p lo hi') k π D b else 0) = 0 := if_neg (fun e => h e.symm)
        rw [if_neg h, e9, Int.add_zero]
  · have hbe : b = oN (wM m p lo hi') k := by omega
    subst hbe
    have hall2 : bCum (wM m p lo hi') (wP m p lo hi') k π (oN (wM m p lo hi') k) = S (wR lo hi') k := hB2.cum_all.trans hw.sum
    rw [hall2] at hb
    subst hlo hhi
    have hE8 : hgE k k s m p q x T g = 8 := by rw [hE, if_neg (by omega)]
    exact .inr ⟨rfl, .inl ⟨by rw [hE8]; decide, by rw [hE8]; rfl⟩⟩
  have hbe : b = oN (wM m p lo hi') k := by omega
  subst hbe
  have hall2 : bCum (wM m p lo hi') (wP m p lo hi') k π (oN (wM m p lo hi') k) = S (wR lo hi') k := hB2.cum_all.trans hw.sum
  rw [hall2] at hb
  have hD2 : D ≤ S (wR lo hi') k := by omega
  clear hb hcz hMt hbN hown
  obtain ⟨hXs, hXb⟩ := hw.xb hq hDlo hD2
  generalize hX : (fun z => bX (wM m p lo hi') (wP m p lo hi') k π D z (oN (wM m p lo hi') k)) = X
  have hXz : ∀ z, bX (wM m p lo hi') (wP m p lo hi') k π D z (oN (wM m p lo hi') k) = X z := fun z => by rw [← hX]
  have hrow : (fun z => lo z + bX (wM m p lo hi') (wP m p lo hi') k π D z (oN (wM m p lo hi') k)) = fun z => lo z + X z := funext fun z => by rw [hXz]
  rw [hrow]
  have hyb : ∀ z, z < k → 0 ≤ lo z + X z ∧ lo z + X z ≤ S (p z) (m z) ∧ S (p z) (m z) ≤ 100000 ∧ offXE (s z) (m z) (p z) (q z) (lo z + X z) = 0 ∧ offXE (s z) (m z) (p z) (q z) (x z) = 0 := fun z hz => by
    have h2 := hXb z hz
    have h3 : 0 ≤ X z ∧ X z ≤ wR lo hi' z := by rw [← hXz]; exact h2
    have h4 := hw.lo0 z hz
    have h5 := hw.hi1 z hz
    have h6 := hw.cap z hz
    have h7 := hx z hz
    have h8 := (hall z hz).1
    unfold wR at h3
    refine ⟨by omega, by omega, h6, ?_, ?_⟩ <;> (unfold offXE; rw [if_neg (fun h => h h8), if_neg (by omega)])
  have hCb := fun (y : Nat → Int) z (hz : z ≤ k) => S_le (p := wC m p q y) (a := -1200000000000) (b := 1200000000000) (k := z) fun j hj => C_le (hall j (by omega)).2.1 (y j) (Nat.le_refl _)
  refine LoopG.nilC 4 0 3 1 rfl rfl ?_
  refine sem_loop tab_ok gamG1_ok mixed (by kernel_rfl) (O := ordHb) (fun j : Nat => ⟨[(1, .c (.sl 1 k (c1 x))), (8, .lp 0 0), (14, .own 1), (27, .lp 2 0), (166, .c (.sl 2 k (cO s m p q))), (167, intV k), (168, intV j)], [.box [.c (.v (.slice none 0 0)), intV 0], .row 3 1 k false (c1 fun z => lo z + X z), .box [.own 3, intV (S (wC m p q fun z => lo z + X z) j - S (wC m p q x) j)], .row 3 1 j false (c1 fun z => lo z + X z - x z)]⟩) (fun j => j ≤ k) (fun j => k - j) ⟨0, [?_, ?_, ?_, ?_], Nat.zero_le _, ?_⟩ fun j hj => ?_
  rotate_left 4
  · refine Sub.of ?_ ?_ ?_
    repeat' (first | (refine And.intro ?_ ?_) | exact trivial | exact fun _ _ _ => hsc _ _ | (exact congrArg intV (by first | with_reducible rfl | with_reducible assumption)) | exact (rfl : AV.idsLt _ _ = true) | exact (rfl : _ = AV.ren _ (.own _)) | exact (rfl : _ = AV.ren _ (.fn _ _)) | exact (rfl : _ = AV.ren _ (.gh _)) | (exact congrArg intV (by assumption)) | (refine congrArg intV ((wr_id (by omega) (by omega)).trans (by omega))) | exact rfl | (simp only [Int.toNat_natCast, Int.toNat_zero, Nat.sub_zero, Nat.zero_add]; first | exact rfl | done) | exact all0 | exact fun h => Bool.noConfusion h | exact fun _ _ _ _ => rfl | omega)
  have hbj := hyb j
  have hxj := hx j
  have hkj := fun (h : j < k) => hk j h
  have eC : j < k → IntKind.i64.wrap (S (wC m p q fun z => lo z + X z) j - S (wC m p q x) j + IntKind.i64.wrap ((if offXE (s j) (m j) (p j) (q j) (lo j + X j) = 0 then S (ct (p j) (q j) (lo j + X j)) (m j) else 0) - (if offXE (s j) (m j) (p j) (q j) (x j) = 0 then S (ct (p j) (q j) (x j)) (m j) else 0))) = S (wC m p q fun z => lo z + X z) (j + 1) - S (wC m p q x) (j + 1) := fun h => by
    obtain ⟨_, _, _, h4, h5⟩ := hbj h
    have c1 := hCb (fun z => lo z + X z) j (by omega)
    have c2 := hCb x j (by omega)
    have c3 := C_le (hall j h).2.1 (lo j + X j) (Nat.le_refl _)
    have c4 := C_le (hall j h).2.1 (x j) (Nat.le_refl _)
    have k1 : S (wC m p q fun z => lo z + X z) (j + 1) = S (wC m p q fun z => lo z + X z) j + S (ct (p j) (q j) (lo j + X j)) (m j) := rfl
    have k2 : S (wC m p q x) (j + 1) = S (wC m p q x) j + S (ct (p j) (q j) (x j)) (m j) := rfl
    rw [if_pos h4, if_pos h5, wr_id (x := S (ct (p j) (q j) (lo j + X j)) (m j) - S (ct (p j) (q j) (x j)) (m j)) (by omega) (by omega), wr_id (by omega) (by omega), k1, k2]
    omega
  have eD : j < k → IntKind.i64.wrap (lo j + X j - x j) = lo j + X j - x j := fun h => by
    have := hbj h
    have := hxj h
    exact wr_id (by omega) (by omega)
  conv => whnf
  repeat' (first
    | (refine NilG.mk fun bn hbn => ?_; conv => whnf)
    | (refine Both.mk ?_ ?_ <;> conv => whnf)
    | exact trivial
    | (refine Br.mk (fun hb => ?_) (fun hb => ?_) <;> (first | (exfalso; revert hb; decide) | ((try simp only [BL] at hb) <;> (try simp only [DL] at hb) <;> conv => whnf)))
    | (refine And.intro ?_ ?_; (focus (first | exact id | exact rfl | exact trivial | (intro hg; first | exact hg | exact rfl | (simp; done) | (simp at hg ⊢; assumption)) | omega | decide | exact is2_c _ _ _ | exact is1_c _ _ | exact isS_c _ _ | exact isB_c _ _ | exact Nat.le_refl _ | assumption | exact mulLe (by decide) (by omega) | exact mulLe2 (by decide) (by omega) (by omega) | (intros; simp only [BL] at *; omega) | (intros; (try simp only [BL] at *); (try simp only [DL] at *); omega) | (intros; simp only [BL] at *; rw [wr_id (by omega) (by omega)]; omega) | (intro h1 h2; exact Bool.and_eq_true_iff.2 ⟨h1, h2⟩) | exact ⟨is2_c _ _ _, (hkj (by omega)).1, (hkj (by omega)).2⟩ | (intros; simp_all; done))); conv => whnf)
    | (refine Or.inr (And.intro rfl ?_); first | (refine congrArg intV ?_) | (refine congrArg boolV ?_) | (refine tupII ?_ ?_) | (refine tupIII ?_ ?_ ?_) | (refine tupU ?_ ?_ ?_ ?_ ?_) | exact rfl))
  iterate 2
    · have eC := eC (by omega)
      have eD := eD (by omega)
      refine ⟨j + 1, [0, 1, 2, 6], by omega, by omega, ?_⟩
      refine Sub.of ?_ ?_ ?_
      repeat' (first | (exact congrArg (fun z => [AV.own 6, intV z]) eC) | (refine And.intro ?_ ?_) | exact trivial | exact fun _ _ _ => hsc _ _ | (exact congrArg intV (by first | with_reducible rfl | with_reducible assumption)) | exact (rfl : AV.idsLt _ _ = true) | exact (rfl : _ = AV.ren _ (.own _)) | exact (rfl : _ = AV.ren _ (.fn _ _)) | exact (rfl : _ = AV.ren _ (.gh _)) | (exact congrArg intV (by assumption)) | (refine congrArg intV ((wr_id (by omega) (by omega)).trans (by omega))) | exact rfl | (simp only [Int.toNat_natCast, Int.toNat_zero, Nat.sub_zero, Nat.zero_add]; first | exact rfl | done) | exact all0 | exact fun h => Bool.noConfusion h | exact fun _ _ _ _ => rfl | omega)
      intro aq haq bq hbq
      by_cases hltq : aq < j
      · exact if_pos hltq
      · obtain rfl : aq = j := by omega
        refine (if_neg hltq).trans ?_
        rw [Nat.sub_self]
        revert bq hbq
        refine all1 (congrArg iL eD)
  · obtain rfl : j = k := by omega
    have hE0 : hgE j j s m p q x T g = 0 := by
      rw [hE]
      exact if_pos ⟨by omega, by omega⟩
    subst hX
    subst hT9
    subst hlo hhi
    exact .inr ⟨rfl, .inr ⟨hE0, π, hq, rfl⟩⟩
end Go.Proofs.Ytdakikgebfphmaa
