/-
  The ledger: the walk of Settle.
-/
import Derived.Test.YtogibhkbckfgbaaLed
namespace Go.Proofs.Ytogibhkbckfgbaa
open Go.RowKit

/-- the error of account k; of all -/
def lgE (s : Nat → ByteArray) (x : Nat → Int) (k : Nat) : Int := if nameB (s k) = false then 6 else if dupB s (s k) k = true then 7 else if x k < -1000000000000 ∨ 1000000000000 < x k then 4 else 0
def seE (n m : Nat) (s : Nat → ByteArray) (x : Nat → Int) : Int := if 64 < n then 2 else if m ≠ n then 3 else if fst (lgE s x) n ≠ 0 then fst (lgE s x) n else if S x n ≠ 0 then 14 else 0
theorem lgE_zero {s : Nat → ByteArray} {x : Nat → Int} {k : Nat} (h : lgE s x k = 0) : -1000000000000 ≤ x k ∧ x k ≤ 1000000000000 := by
  unfold lgE at h
  split at h
  · cases h
  · split at h
    · cases h
    · split at h
      · cases h
      · omega
/-- what Settle hands back -/
def setK (n m : Nat) (s : Nat → ByteArray) (x : Nat → Int) (obs : List OB) (r : AV) : Prop :=
  obs = [] ∧ ((seE n m s x ≠ 0 ∧ r = .tup [.c (.v (.slice none 0 0)), intV (seE n m s x)]) ∨ (seE n m s x = 0 ∧ ∃ J, (∀ j, j < J → goes n (bal n x j)) ∧ ¬ goes n (bal n x J) ∧ r = .tup [.c (.sl 3 J (cEn s n x)), intV 0]))

def sCt : List AV → Sd × AV
  | [.c (.sl 1 n f), .c (.v (.string nm))] => (.p (isS n f ∧ n ≤ 1000), boolV (dupB (dS f) nm n))
  | _ => (.p False, .top)
def gamE1 : Gam := fun f => match f with
  | 70 => some (s1S (fun s => s.size ≤ maxLen) nameB)
  | 72 => some sCt
  | _ => none
theorem gamE1_ok : GOk Try.prog gamE1 := fun f g h => by
  unfold gamE1 at h
  split at h
  · injection h with h; subst h; exact s1S_ok name1
  · injection h with h; subst h
    intro args hs _
    unfold sCt at hs ⊢
    split at hs
    · exact (contStr _ _ _ hs.2).le (Le.cons (Le1.sl hs.1) (Le.cons (Le1.refl _) Le.nil))
    · exact hs.elim
  · cases h

theorem fidx_lt (b : Nat → Bool) (n : Nat) : fidx b n < n := by
  by_cases h : fidx b n ≥ 0
  · have := fidx_in h; omega
  · omega

set_option maxHeartbeats 1000000 in
theorem settle (n m : Nat) (s : Nat → ByteArray) (x : Nat → Int) (hs : ∀ k, k < n → (s k).size ≤ maxLen) (hn : n ≤ maxLen) (hm : m ≤ maxLen) : Fn Try.prog 36 [.c (.sl 1 n (cS s)), .c (.sl 1 m (c1 x))] (setK n m s x) := by
  refine fn_of_wpx (O := lex) tab_ok gamE1_ok mixed Try.func36 (by kernel_rfl) rfl rfl rfl (by simp [Try.ntmps36]) (by kernel_rfl) ?_
  have hn' : n ≤ 9223372036854775807 := hn
  have hm' : m ≤ 9223372036854775807 := hm
  conv => whnf
  repeat' (first
    | (refine NilG.mk fun bn hbn => ?_; conv => whnf)
    | (refine Both.mk ?_ ?_ <;> conv => whnf)
    | exact trivial
    | (refine Br.mk (fun hb => ?_) (fun hb => ?_) <;> (first | (exfalso; revert hb; decide) | ((try simp only [BL] at hb) <;> (try simp only [DL] at hb) <;> conv => whnf)))
    | (refine And.intro ?_ ?_; (focus (first | exact id | exact rfl | exact trivial | (intro hg; first | exact hg | exact rfl | (simp; done) | (simp at hg ⊢; assumption)) | omega | decide | exact is2_c _ _ _ | exact is1_c _ _ | exact isS_c _ _ | exact isB_c _ _ | exact Nat.le_refl _ | assumption | exact mulLe (by decide) (by omega) | exact mulLe2 (by decide) (by omega) (by omega) | (intros; simp only [BL] at *; omega) | (intros; (try simp only [BL] at *); (try simp only [DL] at *); omega) | (intros; simp only [BL] at *; rw [wr_id (by omega) (by omega)]; omega) | (intros; simp_all; done))); conv => whnf)
    | (refine Or.inr (And.intro rfl ?_); first | (refine congrArg intV ?_) | (refine congrArg boolV ?_) | (refine tupII ?_ ?_) | (refine tupIII ?_ ?_ ?_) | (refine tupU ?_ ?_ ?_ ?_ ?_) | exact rfl))
  · have hE : seE n m s x = 2 := by unfold seE; rw [if_pos (by omega)]
    exact .inr ⟨rfl, .inl ⟨by rw [hE]; decide, by rw [hE]; rfl⟩⟩
  · have hE : seE n m s x = 3 := by unfold seE; rw [if_neg (by omega), if_pos (by omega)]
    exact .inr ⟨rfl, .inl ⟨by rw [hE]; decide, by rw [hE]; rfl⟩⟩
  have hn64 : n ≤ 64 := by omega
  obtain rfl : m = n := by omega
  have hE : seE m m s x = if fst (lgE s x) m ≠ 0 then fst (lgE s x) m else if S x m ≠ 0 then 14 else 0 := by unfold seE; rw [if_neg (by omega), if_neg (fun h => h rfl)]
  clear hb
  refine sem_loop tab_ok gamE1_ok mixed (by kernel_rfl) (O := lex) (fun i : Nat => ⟨[(26, intV i), (25, intV m), (24, .c (.sl 1 m (cS s))), (0, .c (.sl 1 m (cS s))), (1, .c (.sl 1 m (c1 x))), (6, intV (S x i))], []⟩) (fun i => i ≤ m ∧ fst (lgE s x) i = 0) (fun i => m - i) ⟨0, [], ⟨Nat.zero_le _, rfl⟩, ?_⟩ fun i hi => ?_
  · refine Sub.of ?_ ?_ ?_
    repeat' (first | (refine And.intro ?_ ?_) | exact trivial | (exact congrArg intV (by assumption)) | (refine congrArg intV ((wr_id (by omega) (by omega)).trans (by omega))) | exact rfl | (simp only [Int.toNat_natCast, Int.toNat_zero, Nat.sub_zero, Nat.zero_add]; first | exact rfl | done) | exact all0 | exact fun h => Bool.noConfusion h | exact fun _ _ _ _ => rfl | omega)
  have hS := S_le (p := x) (a := -1000000000000) (b := 1000000000000) (k := i) fun k hk => lgE_zero (fst_zero hi.2 k hk)
  have ed : dupB (dS fun k j => cS s (Int.toNat 0 + k) j) (s i) (i - Int.toNat 0) = dupB s (s i) i := by
    simp only [Int.toNat_zero, Nat.zero_add, Nat.sub_zero]
    rfl
  conv => whnf
  repeat' (first
    | (refine NilG.mk fun bn hbn => ?_; conv => whnf)
    | (refine Both.mk ?_ ?_ <;> conv => whnf)
    | exact trivial
    | (refine Br.mk (fun hb => ?_) (fun hb => ?_) <;> (first | (exfalso; revert hb; decide) | ((try simp only [BL] at hb) <;> (try simp only [DL] at hb) <;> conv => whnf)))
    | (refine And.intro ?_ ?_; (focus (first | exact id | exact rfl | exact trivial | (intro hg; first | exact hg | exact rfl | (simp; done) | (simp at hg ⊢; assumption)) | omega | decide | exact is2_c _ _ _ | exact is1_c _ _ | exact isS_c _ _ | exact isB_c _ _ | exact Nat.le_refl _ | assumption | exact mulLe (by decide) (by omega) | exact mulLe2 (by decide) (by omega) (by omega) | (intros; simp only [BL] at *; omega) | (intros; (try simp only [BL] at *); (try simp only [DL] at *); omega) | (intros; simp only [BL] at *; rw [wr_id (by omega) (by omega)]; omega) | (intros; simp_all; done) | first | exact hs _ (by omega) | exact ⟨isS_c _ _, by omega⟩)); conv => whnf)
    | (refine Or.inr (And.intro rfl ?_); first | (refine congrArg intV ?_) | (refine congrArg boolV ?_) | (refine tupII ?_ ?_) | (refine tupIII ?_ ?_ ?_) | (refine tupU ?_ ?_ ?_ ?_ ?_) | exact rfl))
  · have h1 : lgE s x i = 6 := by unfold lgE; rw [if_pos hb]
    have hf : fst (lgE s x) m = 6 := by rw [fst_at hi.2 (by rw [h1]; decide) (by omega), h1]
    have hE' : seE m m s x = 6 := by rw [hE, hf]; rfl
    exact .inr ⟨rfl, .inl ⟨by rw [hE']; decide, by rw [hE']; rfl⟩⟩
  · rename_i hnm
    rw [ed] at hb
    have h1 : lgE s x i = 7 := by unfold lgE; rw [if_neg (by rw [hnm]; decide), if_pos hb]
    have hf : fst (lgE s x) m = 7 := by rw [fst_at hi.2 (by rw [h1]; decide) (by omega), h1]
    have hE' : seE m m s x = 7 := by rw [hE, hf]; rfl
    exact .inr ⟨rfl, .inl ⟨by rw [hE']; decide, by rw [hE']; rfl⟩⟩
  · rename_i hnm hd
    rw [ed] at hd
    have h1 : lgE s x i = 4 := by unfold lgE; rw [if_neg (by rw [hnm]; decide), if_neg (by rw [hd]; decide), if_pos (by omega)]
    have hf : fst (lgE s x) m = 4 := by rw [fst_at hi.2 (by rw [h1]; decide) (by omega), h1]
    have hE' : seE m m s x = 4 := by rw [hE, hf]; rfl
    exact .inr ⟨rfl, .inl ⟨by rw [hE']; decide, by rw [hE']; rfl⟩⟩
  · rename_i hnm hd
    rw [ed] at hd
    have h1 : lgE s x i = 0 := by unfold lgE; rw [if_neg (by rw [hnm]; decide), if_neg (by rw [hd]; decide), if_neg (by omega)]
    have e1 : IntKind.i64.wrap (S x i + x i) = S x (i + 1) := wr_id (by omega) (by omega)
    refine ⟨i + 1, [], ⟨by omega, fst_next hi.2 h1⟩, by omega, ?_⟩
    refine Sub.of ?_ ?_ ?_
    repeat' (first | (refine And.intro ?_ ?_) | exact trivial | (exact congrArg intV (by assumption)) | (refine congrArg intV ((wr_id (by omega) (by omega)).trans (by omega))) | exact rfl | (simp only [Int.toNat_natCast, Int.toNat_zero, Nat.sub_zero, Nat.zero_add]; first | exact rfl | done) | exact all0 | exact fun h => Bool.noConfusion h | exact fun _ _ _ _ => rfl | omega)
  · have him : i = m := by omega
    have hf : fst (lgE s x) m = 0 := by rw [← him]; exact hi.2
    have hE' : seE m m s x = 14 := by rw [hE, hf, ← him]; exact (if_neg (fun h => h rfl)).trans (if_pos hb)
    exact .inr ⟨rfl, .inl ⟨by rw [hE']; decide, by rw [hE']; rfl⟩⟩
  have him : i = m := by omega
  have hf : fst (lgE s x) m = 0 := by rw [← him]; exact hi.2
  have hS0 : S x m = 0 := by rw [← him]; exact hb
  have hE' : seE m m s x = 0 := by rw [hE, hf]; exact (if_neg (fun h => h rfl)).trans (if_neg (fun h => h hS0))
  have hx := fun k hk => lgE_zero (fst_zero hf k hk)
  clear hb
  refine CallG.mk (Fn.mono (cloneI m x (by omega)) ?_)
  rintro obs r (⟨rfl, rfl⟩ | ⟨hm0, rfl, rfl⟩)
  conv => whnf
  repeat' (first
    | (refine NilG.mk fun bn hbn => ?_; conv => whnf)
    | (refine Both.mk ?_ ?_ <;> conv => whnf)
    | exact trivial
    | (refine Br.mk (fun hb => ?_) (fun hb => ?_) <;> (first | (exfalso; revert hb; decide) | ((try simp only [BL] at hb) <;> (try simp only [DL] at hb) <;> conv => whnf)))
    | (refine And.intro ?_ ?_; (focus (first | exact id | exact rfl | exact trivial | (intro hg; first | exact hg | exact rfl | (simp; done) | (simp at hg ⊢; assumption)) | omega | decide | exact is2_c _ _ _ | exact is1_c _ _ | exact isS_c _ _ | exact isB_c _ _ | exact Nat.le_refl _ | assumption | exact mulLe (by decide) (by omega) | exact mulLe2 (by decide) (by omega) (by omega) | (intros; simp only [BL] at *; omega) | (intros; (try simp only [BL] at *); (try simp only [DL] at *); omega) | (intros; simp only [BL] at *; rw [wr_id (by omega) (by omega)]; omega) | (intros; simp_all; done))); conv => whnf)
    | (refine Or.inr (And.intro rfl ?_); first | (refine congrArg intV ?_) | (refine congrArg boolV ?_) | (refine tupII ?_ ?_) | (refine tupIII ?_ ?_ ?_) | (refine tupU ?_ ?_ ?_ ?_ ?_) | exact rfl))
  rotate_left
  conv => whnf
  repeat' (first
    | (refine NilG.mk fun bn hbn => ?_; conv => whnf)
    | (refine Both.mk ?_ ?_ <;> conv => whnf)
    | exact trivial
    | (refine Br.mk (fun hb => ?_) (fun hb => ?_) <;> (first | (exfalso; revert hb; decide) | ((try simp only [BL] at hb) <;> (try simp only [DL] at hb) <;> conv => whnf)))
    | (refine And.intro ?_ ?_; (focus (first | exact id | exact rfl | exact trivial | (intro hg; first | exact hg | exact rfl | (simp; done) | (simp at hg ⊢; assumption)) | omega | decide | exact is2_c _ _ _ | exact is1_c _ _ | exact isS_c _ _ | exact isB_c _ _ | exact Nat.le_refl _ | assumption | exact mulLe (by decide) (by omega) | exact mulLe2 (by decide) (by omega) (by omega) | (intros; simp only [BL] at *; omega) | (intros; (try simp only [BL] at *); (try simp only [DL] at *); omega) | (intros; simp only [BL] at *; rw [wr_id (by omega) (by omega)]; omega) | (intros; simp_all; done))); conv => whnf)
    | (refine Or.inr (And.intro rfl ?_); first | (refine congrArg intV ?_) | (refine congrArg boolV ?_) | (refine tupII ?_ ?_) | (refine tupIII ?_ ?_ ?_) | (refine tupU ?_ ?_ ?_ ?_ ?_) | exact rfl))
  refine LoopG.nil 9 3 1 rfl ?_
  rotate_left
  all_goals
    clear hb
    refine LoopG.nil 10 69 3 rfl ?_
    refine sem_loop tab_ok gamE1_ok mixed (by kernel_rfl) (O := lex) (fun j : Nat => ⟨[(0, .c (.sl 1 m (cS s))), (9, .own 0), (10, .own 1)], [.row 3 1 m false (c1 (bal m x j)), .row 69 3 j false (cEn s m x)]⟩) (fun j => cz (bal m x j) m + j ≤ m ∧ (∀ k, k < j → goes m (bal m x k)) ∧ (∀ a, a < m → -1000000000000 ≤ bal m x j a ∧ bal m x j a ≤ 1000000000000)) (fun j => cz (bal m x j) m) ⟨0, [?_, ?_], ⟨cz_le m, fun k hk => absurd hk (Nat.not_lt_zero _), hx⟩, ?_⟩ fun j hj => ?_
    rotate_left 2
    · refine Sub.of ?_ ?_ ?_
      repeat' (first | (refine And.intro ?_ ?_) | exact trivial | (exact congrArg intV (by assumption)) | (refine congrArg intV ((wr_id (by omega) (by omega)).trans (by omega))) | exact rfl | (simp only [Int.toNat_natCast, Int.toNat_zero, Nat.sub_zero, Nat.zero_add]; first | exact rfl | done) | exact all0 | exact fun h => Bool.noConfusion h | exact fun _ _ _ _ => rfl | omega)
    try clear hm0
    have l1 := fidx_lt (ngB (bal m x j)) m
    have l2 := fidx_lt (psB (bal m x j)) m
    conv => whnf
    repeat' (first
      | (refine NilG.mk fun bn hbn => ?_; conv => whnf)
      | (refine Both.mk ?_ ?_ <;> conv => whnf)
      | exact trivial
      | (refine Br.mk (fun hb => ?_) (fun hb => ?_) <;> (first | (exfalso; revert hb; decide) | ((try simp only [BL] at hb) <;> (try simp only [DL] at hb) <;> conv => whnf)))
      | (refine And.intro ?_ ?_; (focus (first | exact id | exact rfl | exact trivial | (intro hg; first | exact hg | exact rfl | (simp; done) | (simp at hg ⊢; assumption)) | omega | decide | exact is2_c _ _ _ | exact is1_c _ _ | exact isS_c _ _ | exact isB_c _ _ | exact Nat.le_refl _ | assumption | exact mulLe (by decide) (by omega) | exact mulLe2 (by decide) (by omega) (by omega) | (intros; simp only [BL] at *; omega) | (intros; (try simp only [BL] at *); (try simp only [DL] at *); omega) | (intros; simp only [BL] at *; rw [wr_id (by omega) (by omega)]; omega) | (intros; simp_all; done))); conv => whnf)
      | (refine Or.inr (And.intro rfl ?_); first | (refine congrArg intV ?_) | (refine congrArg boolV ?_) | (refine tupII ?_ ?_) | (refine tupIII ?_ ?_ ?_) | (refine tupU ?_ ?_ ?_ ?_ ?_) | exact rfl))
    refine CallG.mk (Fn.mono (idxNg m (bal m x j) (by omega)) ?_)
    rintro obs r ⟨rfl, rfl⟩
    conv => whnf
    repeat' (first
      | (refine NilG.mk fun bn hbn => ?_; conv => whnf)
      | (refine Both.mk ?_ ?_ <;> conv => whnf)
      | exact trivial
      | (refine Br.mk (fun hb => ?_) (fun hb => ?_) <;> (first | (exfalso; revert hb; decide) | ((try simp only [BL] at hb) <;> (try simp only [DL] at hb) <;> conv => whnf)))
      | (refine And.intro ?_ ?_; (focus (first | exact id | exact rfl | exact trivial | (intro hg; first | exact hg | exact rfl | (simp; done) | (simp at hg ⊢; assumption)) | omega | decide | exact is2_c _ _ _ | exact is1_c _ _ | exact isS_c _ _ | exact isB_c _ _ | exact Nat.le_refl _ | assumption | exact mulLe (by decide) (by omega) | exact mulLe2 (by decide) (by omega) (by omega) | (intros; simp only [BL] at *; omega) | (intros; (try simp only [BL] at *); (try simp only [DL] at *); omega) | (intros; simp only [BL] at *; rw [wr_id (by omega) (by omega)]; omega) | (intros; simp_all; done))); conv => whnf)
      | (refine Or.inr (And.intro rfl ?_); first | (refine congrArg intV ?_) | (refine congrArg boolV ?_) | (refine tupII ?_ ?_) | (refine tupIII ?_ ?_ ?_) | (refine tupU ?_ ?_ ?_ ?_ ?_) | exact rfl))
    refine CallG.mk (Fn.mono (idxPs m (bal m x j) (by omega)) ?_)
    rintro obs r ⟨rfl, rfl⟩
    conv => whnf
    repeat' (first
      | (refine NilG.mk fun bn hbn => ?_; conv => whnf)
      | (refine Both.mk ?_ ?_ <;> conv => whnf)
      | exact trivial
      | (refine Br.mk (fun hb => ?_) (fun hb => ?_) <;> (first | (exfalso; revert hb; decide) | ((try simp only [BL] at hb) <;> (try simp only [DL] at hb) <;> conv => whnf)))
      | (refine And.intro ?_ ?_; (focus (first | exact id | exact rfl | exact trivial | (intro hg; first | exact hg | exact rfl | (simp; done) | (simp at hg ⊢; assumption)) | omega | decide | exact is2_c _ _ _ | exact is1_c _ _ | exact isS_c _ _ | exact isB_c _ _ | exact Nat.le_refl _ | assumption | exact mulLe (by decide) (by omega) | exact mulLe2 (by decide) (by omega) (by omega) | (intros; simp only [BL] at *; omega) | (intros; (try simp only [BL] at *); (try simp only [DL] at *); omega) | (intros; simp only [BL] at *; rw [wr_id (by omega) (by omega)]; omega) | (intros; simp_all; done))); conv => whnf)
      | (refine Or.inr (And.intro rfl ?_); first | (refine congrArg intV ?_) | (refine congrArg boolV ?_) | (refine tupII ?_ ?_) | (refine tupIII ?_ ?_ ?_) | (refine tupU ?_ ?_ ?_ ?_ ?_) | exact rfl))
    · exact .inr ⟨rfl, .inr ⟨hE', j, hj.2.1, fun hg => by have h1 := hg.1; have h2 := hg.2; omega, rfl⟩⟩
    have hg : goes m (bal m x j) := ⟨by omega, by omega⟩
    obtain ⟨g1, g2, g3, g4, g5, g6, g7, g8, g9⟩ := goes_in hg
    have hne : ¬ (fidx (psB (bal m x j)) m).toNat = (fidx (ngB (bal m x j)) m).toNat := fun e => g5 e.symm
    have b1 := hj.2.2 _ g1
    have b2 := hj.2.2 _ g2
    have hcz := stp_cz hg
    have hle := stp_le hg hj.2.2
    dsimp only
    rw [if_neg hne]
    conv => whnf
    repeat' (first
      | (refine NilG.mk fun bn hbn => ?_; conv => whnf)
      | (refine Both.mk ?_ ?_ <;> conv => whnf)
      | exact trivial
      | (refine Br.mk (fun hb => ?_) (fun hb => ?_) <;> (first | (exfalso; revert hb; decide) | ((try simp only [BL] at hb) <;> (try simp only [DL] at hb) <;> conv => whnf)))
      | (refine And.intro ?_ ?_; (focus (first | exact id | exact rfl | exact trivial | (intro hg; first | exact hg | exact rfl | (simp; done) | (simp at hg ⊢; assumption)) | omega | decide | exact is2_c _ _ _ | exact is1_c _ _ | exact isS_c _ _ | exact isB_c _ _ | exact Nat.le_refl _ | assumption | exact mulLe (by decide) (by omega) | exact mulLe2 (by decide) (by omega) (by omega) | (intros; simp only [BL] at *; omega) | (intros; (try simp only [BL] at *); (try simp only [DL] at *); omega) | (intros; simp only [BL] at *; rw [wr_id (by omega) (by omega)]; omega) | (intros; simp_all; done))); conv => whnf)
      | (refine Or.inr (And.intro rfl ?_); first | (refine congrArg intV ?_) | (refine congrArg boolV ?_) | (refine tupII ?_ ?_) | (refine tupIII ?_ ?_ ?_) | (refine tupU ?_ ?_ ?_ ?_ ?_) | exact rfl))
    have hd : min (IntKind.i64.wrap (0 - bal m x j (fidx (ngB (bal m x j)) m).toNat)) (bal m x j (fidx (psB (bal m x j)) m).toNat) = dE m (bal m x j) := by
      rw [wr_id (x := 0 - bal m x j (fidx (ngB (bal m x j)) m).toNat) (by show -9223372036854775808 ≤ 0 - bal m x j (loI m (bal m x j)); omega) (by show 0 - bal m x j (loI m (bal m x j)) ≤ 9223372036854775807; omega), Int.zero_sub]
      rfl
    refine ⟨j + 1, [?_, ?_], ⟨by show cz (stp m (bal m x j)) m + (j + 1) ≤ m; omega, fun k hk => by rcases Nat.lt_succ_iff_lt_or_eq.1 hk with h | rfl <;> first | exact hj.2.1 k h | exact hg, hle⟩, by show cz (stp m (bal m x j)) m < cz (bal m x j) m; omega, ?_⟩
    rotate_left 2
    refine Sub.of ?_ ?_ ?_
    repeat' (first | (refine And.intro ?_ ?_) | exact trivial | (exact congrArg intV (by assumption)) | (refine congrArg intV ((wr_id (by omega) (by omega)).trans (by omega))) | exact rfl | (simp only [Int.toNat_natCast, Int.toNat_zero, Nat.sub_zero, Nat.zero_add]; first | exact rfl | done) | exact all0 | exact fun h => Bool.noConfusion h | exact fun _ _ _ _ => rfl | omega)
    · have q1 : IntKind.i64.wrap (bal m x j (hiI m (bal m x j)) - min (IntKind.i64.wrap (0 - bal m x j (fidx (ngB (bal m x j)) m).toNat)) (bal m x j (fidx (psB (bal m x j)) m).toNat)) = stp m (bal m x j) (hiI m (bal m x j)) := by
        have := hle _ g2
        rw [hd, stp_hi] at *
        exact wr_id (by omega) (by omega)
      have q2 : IntKind.i64.wrap (bal m x j (loI m (bal m x j)) + min (IntKind.i64.wrap (0 - bal m x j (fidx (ngB (bal m x j)) m).toNat)) (bal m x j (fidx (psB (bal m x j)) m).toNat)) = stp m (bal m x j) (loI m (bal m x j)) := by
        have := hle _ g1
        rw [stp_lo hg] at *
        rw [hd]
        exact wr_id (by omega) (by omega)
      intro a ha b hbq
      obtain rfl : b = 0 := by omega
      by_cases e1 : a = hiI m (bal m x j)
      · refine (if_pos e1).trans ((if_pos ⟨Nat.le_refl _, Nat.zero_lt_one⟩).trans ?_)
        rw [e1]
        exact congrArg (fun z => L.v (.int .i64 z)) q1
      · by_cases e2 : a = loI m (bal m x j)
        · refine (if_neg e1).trans ((if_pos e2).trans ((if_pos ⟨Nat.le_refl _, Nat.zero_lt_one⟩).trans ?_))
          rw [e2]
          exact congrArg (fun z => L.v (.int .i64 z)) q2
        · refine (if_neg e1).trans ((if_neg e2).trans ?_)
          exact congrArg (fun z => L.v (.int .i64 z)) (stp_else e2 e1).symm
    · intro aq haq bq hbq
      by_cases hltq : aq < j
      · exact if_pos hltq
      · obtain rfl : aq = j := by omega
        refine (if_neg hltq).trans ?_
        rw [Nat.sub_self]
        revert bq hbq
        refine all3 rfl rfl (congrArg (fun z => L.v (.int .i64 z)) hd)
end Go.Proofs.Ytogibhkbckfgbaa
