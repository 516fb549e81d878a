/-
  HoursChanges: the closure that tells a list's cost, and the least of all lists.
-/
import Derived.Test.YtdakikgebfphmaaHblC
import Derived.Test.YtdakikgebfphmaaLst
import Derived.Test.YtdakikgebfphmaaWinO
namespace Go.Proofs.Ytdakikgebfphmaa
open Go.RowKit

def gamG2 : Gam := fun f => match f with
  | 25 => some (sOl fun n s m p q => intV (offsE n s m p q))
  | 22 => some (s3 inB)
  | 26 => some (sO (fun _ n p q => okOff n p q) fun _ n p _ => intV (S p n))
  | 27 => some (sOi (fun _ n p q x => okOff n p q ∧ 0 ≤ x ∧ x ≤ 2000000) fun _ n p q x => intV (S (ct p q x) n))
  | _ => none
theorem gamG2_ok : GOk Try.prog gamG2 := fun f g h => by
  unfold gamG2 at h
  split at h
  · injection h with h; subst h; exact sOl_ok fun s m p q n h1 h2 => offsError s m p q n h1 h2
  · injection h with h; subst h; exact s3_ok in3
  · injection h with h; subst h; exact sO_ok offAll
  · injection h with h; subst h; exact sOi_ok offCost3
  · cases h
/-- each of the first changes is permitted -/
def cOk (x y : Nat → Int) (g : Int) : Nat → Bool
  | 0 => true
  | i + 1 => cOk x y g i && inB (y i - x i) (-g) g
theorem cOk_iff {x y : Nat → Int} {g : Int} : ∀ {n : Nat}, cOk x y g n = true ↔ ∀ k, k < n → -g ≤ y k - x k ∧ y k - x k ≤ g
  | 0 => ⟨fun _ k hk => absurd hk (Nat.not_lt_zero _), fun _ => rfl⟩
  | n + 1 => by
    simp only [cOk, Bool.and_eq_true, cOk_iff (n := n), inB, decide_eq_true_eq]
    constructor
    · rintro ⟨h1, h2⟩ k hk
      rcases Nat.lt_succ_iff_lt_or_eq.1 hk with hlt | rfl
      · exact h1 k hlt
      · omega
    · intro h
      exact ⟨fun k hk => h k (by omega), by have := h n (by omega); omega⟩
theorem hCostF (s : Nat → ByteArray) (m : Nat → Nat) (p q : Nat → Nat → Int) (n : Nat) (x y : Nat → Int) (was g : Int) (hn : n ≤ 10) (hok : ∀ k, k < n → okOff (m k) (p k) (q k)) (hy : ∀ k, k < n → 0 ≤ y k ∧ y k ≤ 100000) (hx : ∀ k, k < n → 0 ≤ x k ∧ x k ≤ 100000) (hw : -12000000000000 ≤ was ∧ was ≤ 12000000000000) (hg : 0 ≤ g ∧ g ≤ 100000) :
    Fn1 Try.prog 54 [.c (.sl 1 n (c1 y)), .xp 1 fun j => ([iL was][0 + j]?).getD .un, .xp 1 fun j => ([.sl 2 n (cO s m p q)][0 + j]?).getD .un, .xp 1 fun j => ([.sl 1 n (c1 x)][0 + j]?).getD .un, .xp 1 fun j => ([iL g][0 + j]?).getD .un] (.tup [intV (S (wC m p q y) n - was), boolV (cOk x y g n)]) := by
  refine fn_of_wpx (O := lex) tab_ok gamG2_ok mixed Try.func54 (by kernel_rfl) rfl rfl rfl (by simp [Try.ntmps54]) (by kernel_rfl) ?_
  have e0 : IntKind.i64.wrap (0 - was) = S (wC m p q y) 0 - was := by
    show _ = 0 - was
    rw [wr_id (by omega) (by omega)]
  conv => whnf
  repeat' (first
    | (refine NilG.mk fun bn hbn => ?_; conv => whnf)
    | (refine Both.mk ?_ ?_ <;> conv => whnf)
    | exact trivial
    | (refine Br.mk (fun hb => ?_) (fun hb => ?_) <;> (first | (exfalso; revert hb; decide) | ((try simp only [BL] at hb) <;> (try simp only [DL] at hb) <;> conv => whnf)))
    | (refine And.intro ?_ ?_; (focus (first | exact id | exact rfl | exact trivial | (intro hg; first | exact hg | exact rfl | (simp; done) | (simp at hg ⊢; assumption)) | omega | decide | exact is2_c _ _ _ | exact is1_c _ _ | exact isS_c _ _ | exact isB_c _ _ | exact Nat.le_refl _ | assumption | exact mulLe (by decide) (by omega) | exact mulLe2 (by decide) (by omega) (by omega) | (intros; simp only [BL] at *; omega) | (intros; (try simp only [BL] at *); (try simp only [DL] at *); omega) | (intros; simp only [BL] at *; rw [wr_id (by omega) (by omega)]; omega) | (intro h1 h2; exact Bool.and_eq_true_iff.2 ⟨h1, h2⟩) | (intros; simp_all; done))); conv => whnf)
    | (refine Or.inr (And.intro rfl ?_); first | (refine congrArg intV ?_) | (refine congrArg boolV ?_) | (refine tupII ?_ ?_) | (refine tupIII ?_ ?_ ?_) | (refine tupU ?_ ?_ ?_ ?_ ?_) | exact rfl))
  have hCb := fun z (hz : z ≤ n) => S_le (p := wC m p q y) (a := -1200000000000) (b := 1200000000000) (k := z) fun j hj => C_le (hok j (by omega)) (y j) (Nat.le_refl _)
  refine sem_loop tab_ok gamG2_ok mixed (by kernel_rfl) (O := lex) (fun i : Nat => ⟨[(0, .c (.sl 1 n (c1 y))), (3, .xp 1 fun j => ([.sl 1 n (c1 x)][0 + j]?).getD .un), (4, .xp 1 fun j => ([iL g][0 + j]?).getD .un), (8, intV (S (wC m p q y) i - was)), (9, boolV (cOk x y g i)), (14, .c (.sl 2 n (cO s m p q))), (15, intV n), (16, intV i)], []⟩) (fun i => i ≤ n) (fun i => n - i) ⟨0, [], Nat.zero_le _, ?_⟩ fun i hi => ?_
  · refine Sub.of ?_ ?_ ?_
    repeat' (first | (refine And.intro ?_ ?_) | exact trivial | exact fun _ _ _ => hsc _ _ | (exact congrArg intV (by first | with_reducible rfl | with_reducible assumption)) | exact (rfl : AV.idsLt _ _ = true) | exact (rfl : _ = AV.ren _ (.own _)) | exact (rfl : _ = AV.ren _ (.fn _ _)) | exact (rfl : _ = AV.ren _ (.gh _)) | (exact congrArg intV (by assumption)) | (refine congrArg intV ((wr_id (by omega) (by omega)).trans (by omega))) | exact rfl | (simp only [Int.toNat_natCast, Int.toNat_zero, Nat.sub_zero, Nat.zero_add]; first | exact rfl | done) | exact all0 | exact fun h => Bool.noConfusion h | exact fun _ _ _ _ => rfl | omega)
  have hoki := hok i
  have hyi := hy i
  have hxi := hx i
  have e1 : i < n → IntKind.i64.wrap (S (wC m p q y) i - was + S (ct (p i) (q i) (y i)) (m i)) = S (wC m p q y) (i + 1) - was := fun h => by
    have k1 := hCb (i + 1) h
    have k2 : S (wC m p q y) (i + 1) = S (wC m p q y) i + S (ct (p i) (q i) (y i)) (m i) := rfl
    rw [k2] at k1 ⊢
    rw [wr_id (by omega) (by omega)]
    omega
  have e2 : i < n → IntKind.i64.wrap (y i - x i) = y i - x i := fun h => wr_id (by have := hyi h; have := hxi h; omega) (by have := hyi h; have := hxi h; omega)
  have e3 : IntKind.i64.wrap (0 - g) = -g := (wr_id (by omega) (by omega)).trans (by omega)
  conv => whnf
  repeat' (first
    | (refine NilG.mk fun bn hbn => ?_; conv => whnf)
    | (refine Both.mk ?_ ?_ <;> conv => whnf)
    | exact trivial
    | (refine Br.mk (fun hb => ?_) (fun hb => ?_) <;> (first | (exfalso; revert hb; decide) | ((try simp only [BL] at hb) <;> (try simp only [DL] at hb) <;> conv => whnf)))
    | (refine And.intro ?_ ?_; (focus (first | exact id | exact rfl | exact trivial | (intro hg; first | exact hg | exact rfl | (simp; done) | (simp at hg ⊢; assumption)) | omega | decide | exact is2_c _ _ _ | exact is1_c _ _ | exact isS_c _ _ | exact isB_c _ _ | exact Nat.le_refl _ | assumption | exact mulLe (by decide) (by omega) | exact mulLe2 (by decide) (by omega) (by omega) | (intros; simp only [BL] at *; omega) | (intros; (try simp only [BL] at *); (try simp only [DL] at *); omega) | (intros; simp only [BL] at *; rw [wr_id (by omega) (by omega)]; omega) | (intro h1 h2; exact Bool.and_eq_true_iff.2 ⟨h1, h2⟩) | exact ⟨is2_c _ _ _, hoki (by omega), (hyi (by omega)).1, Int.le_trans (hyi (by omega)).2 (by decide)⟩ | (intros; simp_all; done))); conv => whnf)
    | (refine Or.inr (And.intro rfl ?_); first | (refine congrArg intV ?_) | (refine congrArg boolV ?_) | (refine tupII ?_ ?_) | (refine tupIII ?_ ?_ ?_) | (refine tupU ?_ ?_ ?_ ?_ ?_) | exact rfl))
  · have e1 := e1 (by omega)
    have e2 := e2 (by omega)
    have e4 : (cOk x y g i && inB (IntKind.i64.wrap (y i - x i)) (IntKind.i64.wrap (0 - g)) g) = cOk x y g (i + 1) := by rw [e2, e3]; rfl
    refine ⟨i + 1, [], by omega, by omega, ?_⟩
    refine Sub.of ?_ ?_ ?_
    repeat' (first | (refine And.intro ?_ ?_) | exact trivial | exact fun _ _ _ => hsc _ _ | (exact congrArg intV (by first | with_reducible rfl | with_reducible assumption)) | exact (rfl : AV.idsLt _ _ = true) | exact (rfl : _ = AV.ren _ (.own _)) | exact (rfl : _ = AV.ren _ (.fn _ _)) | exact (rfl : _ = AV.ren _ (.gh _)) | (exact congrArg intV (by assumption)) | (refine congrArg intV ((wr_id (by omega) (by omega)).trans (by omega))) | exact rfl | (simp only [Int.toNat_natCast, Int.toNat_zero, Nat.sub_zero, Nat.zero_add]; first | exact rfl | done) | exact all0 | exact fun h => Bool.noConfusion h | exact fun _ _ _ _ => rfl | omega)
    all_goals first | exact congrArg boolV e4 | skip
  · obtain rfl : i = n := by omega
    exact .inr ⟨rfl, rfl⟩
/-- the least number of the permitted ones -/
def mnF (ok : Nat → Bool) (c : Nat → Int) : Nat → Int × Bool
  | 0 => (0, false)
  | i + 1 => if ok i = true ∧ ((mnF ok c i).2 = false ∨ c i < (mnF ok c i).1) then (c i, true) else mnF ok c i
theorem mnF_spec {ok : Nat → Bool} {c : Nat → Int} : ∀ N, ((mnF ok c N).2 = true ↔ ∃ i, i < N ∧ ok i = true) ∧ ((mnF ok c N).2 = true → (∃ i, i < N ∧ ok i = true ∧ (mnF ok c N).1 = c i) ∧ ∀ i, i < N → ok i = true → (mnF ok c N).1 ≤ c i)
  | 0 => ⟨⟨fun h => (by cases h), fun ⟨i, h, _⟩ => absurd h (Nat.not_lt_zero _)⟩, fun h => by cases h⟩
  | N + 1 => by
    obtain ⟨h1, h2⟩ := mnF_spec (ok := ok) (c := c) N
    simp only [mnF]
    by_cases hc : ok N = true ∧ ((mnF ok c N).2 = false ∨ c N < (mnF ok c N).1)
    · rw [if_pos hc]
      refine ⟨⟨fun _ => ⟨N, by omega, hc.1⟩, fun _ => rfl⟩, fun _ => ⟨⟨N, by omega, hc.1, rfl⟩, fun i hi ho => ?_⟩⟩
      rcases Nat.lt_succ_iff_lt_or_eq.1 hi with hlt | rfl
      · have h3 := h1.2 ⟨i, hlt, ho⟩
        have h4 := (h2 h3).2 i hlt ho
        rcases hc.2 with h5 | h5
        · rw [h5] at h3; cases h3
        · exact Int.le_of_lt (Int.lt_of_lt_of_le h5 h4)
      · exact Int.le_refl _
    · rw [if_neg hc]
      refine ⟨⟨fun h => ?_, fun ⟨i, hi, ho⟩ => ?_⟩, fun h => ?_⟩
      · obtain ⟨i, hi, ho⟩ := h1.1 h
        exact ⟨i, by omega, ho⟩
      · rcases Nat.lt_succ_iff_lt_or_eq.1 hi with hlt | rfl
        · exact h1.2 ⟨i, hlt, ho⟩
        · cases h9 : (mnF ok c i).2 with
          | true => rfl
          | false => exact absurd ⟨ho, .inl h9⟩ hc
      · obtain ⟨⟨i, hi, ho, e⟩, h3⟩ := h2 h
        refine ⟨⟨i, by omega, ho, e⟩, fun j hj hoj => ?_⟩
        rcases Nat.lt_succ_iff_lt_or_eq.1 hj with hlt | rfl
        · exact h3 j hlt hoj
        · by_cases h4 : c j < (mnF ok c j).1
          · exact absurd ⟨hoj, .inr h4⟩ hc
          · omega
end Go.Proofs.Ytdakikgebfphmaa
