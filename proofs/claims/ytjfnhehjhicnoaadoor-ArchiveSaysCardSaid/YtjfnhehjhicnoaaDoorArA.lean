/-
  Archive: digests, an event's check.
-/
import Derived.Test.YtjfnhehjhicnoaaDoorArZ
import Derived.Test.YtjfnhehjhicnoaaDoorName4
namespace Go.Proofs.YtjfnhehjhicnoaaDoor
open Go.RowKit

/-- the digest after one byte -/
def fvS (h c : Int) : Int := IntKind.u64.wrap (xorI .u64 h (IntKind.u64.wrap c) * 1099511628211)
def fvF (h : Int) (s : ByteArray) : Nat → Int
  | 0 => h
  | i + 1 => fvS (fvF h s i) (strB s i)
theorem fv_step (h : Int) (z : ByteArray) (i : Nat) : AV.c (L.v (Value.int .u64 (IntKind.u64.wrap (xorI .u64 (fvF h z i) (IntKind.u64.wrap (strB z (i : Int).toNat)) * 1099511628211)))) = u64V (fvF h z (i + 1)) := by
  rw [Int.toNat_natCast, fvF, fvS]
def fvD (h : Int) (s : ByteArray) : Int := fvF h s s.size
theorem arMul (x y : Int) : Fn Tryd.prog 45 [u64V x, u64V y] (fun obs r => obs = [] ∧ ∃ hi, r = .tup [u64V hi, u64V (IntKind.u64.wrap (x * y))]) := by
  refine fn_of_wpx (O := lex) tab_ok gamN1_ok mixed Tryd.func45 (by kernel_rfl) rfl rfl rfl (by simp [Tryd.ntmps45]) (by kernel_rfl) ?_
  conv => whnf
  repeat' (first
    | (refine NilG.mk fun bn hbn hbx => ?_; conv => whnf)
    | (refine Both.mk ?_ ?_ <;> conv => whnf)
    | ((first | (refine MkG.box 1 rfl rfl rfl (by decide) ?_) | (refine MkG.box 2 rfl rfl rfl (by decide) ?_) | (refine MkG.box 3 rfl rfl rfl (by decide) ?_) | (refine MkG.row ?_)); conv => whnf)
    | (refine LitG.row ?_; conv => whnf)
    | exact trivial
    | (refine Br.mk (fun hb => ?_) (fun hb => ?_) <;> (first | (exfalso; revert hb; decide) | ((try simp only [BL] at hb) <;> (try simp only [DL] at hb) <;> conv => whnf)))
    | (refine And.intro ?_ ?_; (focus (first | exact id | exact rfl | exact trivial | (intro hg; first | exact hg | exact rfl | (simp; done) | (simp at hg ⊢; assumption)) | omega | decide | exact is2_c _ _ _ | exact is1_c _ _ | exact isS_c _ _ | exact isB_c _ _ | exact Nat.le_refl _ | assumption | exact mulLe (by decide) (by omega) | exact mulLe2 (by decide) (by omega) (by omega) | (intros; simp only [BL] at *; omega) | (intros; (try simp only [BL] at *); (try simp only [DL] at *); omega) | (intros; simp only [BL] at *; rw [wr_id (by omega) (by omega)]; omega) | (intro h1 h2; exact Bool.and_eq_true_iff.2 ⟨h1, h2⟩) | (intros; simp_all; done))); conv => whnf)
    | (refine Or.inr (And.intro rfl ?_); first | (refine congrArg intV ?_) | (refine congrArg boolV ?_) | (refine tupII ?_ ?_) | (refine tupIII ?_ ?_ ?_) | (refine tupU ?_ ?_ ?_ ?_ ?_) | exact rfl))
  exact .inr ⟨rfl, _, rfl⟩
/-- a line -/
def nlB (s : ByteArray) : ByteArray := s ++ ⟨#[10]⟩
theorem nl_size (s : ByteArray) : (nlB s).size = s.size + 1 := ByteArray.size_append
theorem arDg (h : Int) (s : ByteArray) (hs : s.size ≤ 1000) : Fn1 Tryd.prog 36 [u64V h, strV s] (u64V (fvD h (nlB s))) := by
  refine fn_of_wpx (O := lex) tab_ok gamN1_ok mixed Tryd.func36 (by kernel_rfl) rfl rfl rfl (by simp [Tryd.ntmps36]) (by kernel_rfl) ?_
  have hz := nl_size s
  conv => whnf
  repeat' (first
    | (refine NilG.mk fun bn hbn hbx => ?_; conv => whnf)
    | (refine Both.mk ?_ ?_ <;> conv => whnf)
    | ((first | (refine MkG.box 1 rfl rfl rfl (by decide) ?_) | (refine MkG.box 2 rfl rfl rfl (by decide) ?_) | (refine MkG.box 3 rfl rfl rfl (by decide) ?_) | (refine MkG.row ?_)); conv => whnf)
    | (refine LitG.row ?_; conv => whnf)
    | exact trivial
    | (refine Br.mk (fun hb => ?_) (fun hb => ?_) <;> (first | (exfalso; revert hb; decide) | ((try simp only [BL] at hb) <;> (try simp only [DL] at hb) <;> conv => whnf)))
    | (refine And.intro ?_ ?_; (focus (first | exact id | exact rfl | exact trivial | (intro hg; first | exact hg | exact rfl | (simp; done) | (simp at hg ⊢; assumption)) | omega | decide | exact is2_c _ _ _ | exact is1_c _ _ | exact isS_c _ _ | exact isB_c _ _ | exact Nat.le_refl _ | assumption | exact mulLe (by decide) (by omega) | exact mulLe2 (by decide) (by omega) (by omega) | (intros; simp only [BL] at *; omega) | (intros; (try simp only [BL] at *); (try simp only [DL] at *); omega) | (intros; simp only [BL] at *; rw [wr_id (by omega) (by omega)]; omega) | (intro h1 h2; exact Bool.and_eq_true_iff.2 ⟨h1, h2⟩) | (show (nlB s).size ≤ 9223372036854775807; omega) | (show s.size + 1 ≤ 9223372036854775807; omega) | (intros; simp_all; done))); conv => whnf)
    | (refine Or.inr (And.intro rfl ?_); first | (refine congrArg intV ?_) | (refine congrArg boolV ?_) | (refine tupII ?_ ?_) | (refine tupIII ?_ ?_ ?_) | (refine tupU ?_ ?_ ?_ ?_ ?_) | exact rfl))
  refine sem_loop tab_ok gamN1_ok mixed (by kernel_rfl) (O := lex) (fun i : Nat => ⟨[(11, intV i), (10, intV (nlB s).size), (9, .c (.sl 1 (nlB s).size fun i _ => .v (.int .u8 (strB (nlB s) i)))), (0, u64V (fvF h (nlB s) i))], []⟩) (fun i => i ≤ (nlB s).size) (fun i => (nlB s).size - i) ⟨0, [], Nat.zero_le _, ?_⟩ fun i hi => ?_
  · refine Sub.of ?_ ?_ ?_
    repeat' (first | (refine And.intro ?_ ?_) | exact trivial | exact fun _ _ _ => hsc _ _ | (exact congrArg intV (by first | with_reducible rfl | with_reducible assumption)) | exact (rfl : AV.idsLt _ _ = true) | exact (rfl : _ = AV.ren _ (.own _)) | exact (rfl : _ = AV.ren _ (.fn _ _)) | exact (rfl : _ = AV.ren _ (.gh _)) | (exact congrArg intV (by assumption)) | (refine congrArg intV ((wr_id (by omega) (by omega)).trans (by omega))) | exact rfl | (simp only [NLc]; first | exact rfl | done) | exact all0 | exact fun h => Bool.noConfusion h | exact fun _ _ _ _ => rfl | omega)
  conv => whnf
  repeat' (first
    | (refine NilG.mk fun bn hbn hbx => ?_; conv => whnf)
    | (refine Both.mk ?_ ?_ <;> conv => whnf)
    | ((first | (refine MkG.box 1 rfl rfl rfl (by decide) ?_) | (refine MkG.box 2 rfl rfl rfl (by decide) ?_) | (refine MkG.box 3 rfl rfl rfl (by decide) ?_) | (refine MkG.row ?_)); conv => whnf)
    | (refine LitG.row ?_; conv => whnf)
    | exact trivial
    | (refine Br.mk (fun hb => ?_) (fun hb => ?_) <;> (first | (exfalso; revert hb; decide) | ((try simp only [BL] at hb) <;> (try simp only [DL] at hb) <;> conv => whnf)))
    | (refine And.intro ?_ ?_; (focus (first | exact id | exact rfl | exact trivial | (intro hg; first | exact hg | exact rfl | (simp; done) | (simp at hg ⊢; assumption)) | omega | decide | exact is2_c _ _ _ | exact is1_c _ _ | exact isS_c _ _ | exact isB_c _ _ | exact Nat.le_refl _ | assumption | exact mulLe (by decide) (by omega) | exact mulLe2 (by decide) (by omega) (by omega) | (intros; simp only [BL] at *; omega) | (intros; (try simp only [BL] at *); (try simp only [DL] at *); omega) | (intros; simp only [BL] at *; rw [wr_id (by omega) (by omega)]; omega) | (intro h1 h2; exact Bool.and_eq_true_iff.2 ⟨h1, h2⟩) | (intros; simp_all; done))); conv => whnf)
    | (refine Or.inr (And.intro rfl ?_); first | (refine congrArg intV ?_) | (refine congrArg boolV ?_) | (refine tupII ?_ ?_) | (refine tupIII ?_ ?_ ?_) | (refine tupU ?_ ?_ ?_ ?_ ?_) | exact rfl))
  · refine ⟨i + 1, [], by omega, by omega, ?_⟩
    refine Sub.of ?_ ?_ ?_
    repeat' (first | (exact fv_step h (nlB s) i) | (refine And.intro ?_ ?_) | exact trivial | exact fun _ _ _ => hsc _ _ | (exact congrArg intV (by first | with_reducible rfl | with_reducible assumption)) | exact (rfl : AV.idsLt _ _ = true) | exact (rfl : _ = AV.ren _ (.own _)) | exact (rfl : _ = AV.ren _ (.fn _ _)) | exact (rfl : _ = AV.ren _ (.gh _)) | (exact congrArg intV (by assumption)) | (refine congrArg intV ((wr_id (by omega) (by omega)).trans (by omega))) | exact rfl | (simp only [NLc]; first | exact rfl | done) | exact all0 | exact fun h => Bool.noConfusion h | exact fun _ _ _ _ => rfl | omega)
  · obtain rfl : i = (nlB s).size := by omega
    exact .inr ⟨rfl, rfl⟩
/-- a small letter -/
def lowB (s : ByteArray) (k : Nat) : Bool := inB (strB s k) 97 122
/-- an event's kind: one to eight small letters -/
def kdB (s : ByteArray) : Bool := decide (1 ≤ s.size) && decide (s.size ≤ 8) && (List.range s.size).all (lowB s)
theorem kd_low {s : ByteArray} {i : Nat} (hi : i < s.size) (h : lowB s i = false) : kdB s = false := by
  refine Bool.eq_false_iff.2 fun g => ?_
  rw [kdB, Bool.and_eq_true] at g
  rw [all_range.1 g.2 i hi] at h
  cases h
theorem kd_all {s : ByteArray} (h : ∀ k, k < s.size → lowB s k = true) : kdB s = (decide (1 ≤ s.size) && decide (s.size ≤ 8)) := by
  rw [kdB, show (List.range s.size).all (lowB s) = true from all_range.2 h, Bool.and_true]
theorem low_t {s : ByteArray} {k : Nat} (h : ¬ (strB s k < 97 ∨ strB s k > 122)) : lowB s k = true := by
  simp only [lowB, inB, BL]
  omega
theorem low_f {s : ByteArray} {k : Nat} (h : strB s k < 97 ∨ strB s k > 122) : lowB s k = false := by
  refine Bool.eq_false_iff.2 fun g => ?_
  simp only [lowB, inB, BL] at g
  omega
theorem arKind (s : ByteArray) (hs : s.size ≤ maxLen) : Fn1 Tryd.prog 38 [strV s] (boolV (kdB s)) := by
  refine fn_of_wpx (O := lex) tab_ok gamN1_ok mixed Tryd.func38 (by kernel_rfl) rfl rfl rfl (by simp [Tryd.ntmps38]) (by kernel_rfl) ?_
  have hs' : s.size ≤ 9223372036854775807 := hs
  conv => whnf
  repeat' (first
    | (refine NilG.mk fun bn hbn hbx => ?_; conv => whnf)
    | (refine Both.mk ?_ ?_ <;> conv => whnf)
    | ((first | (refine MkG.box 1 rfl rfl rfl (by decide) ?_) | (refine MkG.box 2 rfl rfl rfl (by decide) ?_) | (refine MkG.box 3 rfl rfl rfl (by decide) ?_) | (refine MkG.row ?_)); conv => whnf)
    | (refine LitG.row ?_; conv => whnf)
    | exact trivial
    | (refine Br.mk (fun hb => ?_) (fun hb => ?_) <;> (first | (exfalso; revert hb; decide) | ((try simp only [BL] at hb) <;> (try simp only [DL] at hb) <;> conv => whnf)))
    | (refine And.intro ?_ ?_; (focus (first | exact id | exact rfl | exact trivial | (intro hg; first | exact hg | exact rfl | (simp; done) | (simp at hg ⊢; assumption)) | omega | decide | exact is2_c _ _ _ | exact is1_c _ _ | exact isS_c _ _ | exact isB_c _ _ | exact Nat.le_refl _ | assumption | exact mulLe (by decide) (by omega) | exact mulLe2 (by decide) (by omega) (by omega) | (intros; simp only [BL] at *; omega) | (intros; (try simp only [BL] at *); (try simp only [DL] at *); omega) | (intros; simp only [BL] at *; rw [wr_id (by omega) (by omega)]; omega) | (intro h1 h2; exact Bool.and_eq_true_iff.2 ⟨h1, h2⟩) | (intros; simp_all; done))); conv => whnf)
    | (refine Or.inr (And.intro rfl ?_); first | (refine congrArg intV ?_) | (refine congrArg boolV ?_) | (refine tupII ?_ ?_) | (refine tupIII ?_ ?_ ?_) | (refine tupU ?_ ?_ ?_ ?_ ?_) | exact rfl))
  refine sem_loop tab_ok gamN1_ok mixed (by kernel_rfl) (O := lex) (fun i : Nat => ⟨[(8, intV i), (7, intV s.size), (6, .c (.sl 1 s.size fun i _ => .v (.int .u8 (strB s i)))), (0, strV s)], []⟩) (fun i => i ≤ s.size ∧ ∀ k, k < i → lowB s k = true) (fun i => s.size - i) ⟨0, [], ⟨Nat.zero_le _, fun k hk => absurd hk (Nat.not_lt_zero _)⟩, ?_⟩ fun i hi => ?_
  · refine Sub.of ?_ ?_ ?_
    repeat' (first | (refine And.intro ?_ ?_) | exact trivial | exact fun _ _ _ => hsc _ _ | (exact congrArg intV (by first | with_reducible rfl | with_reducible assumption)) | exact (rfl : AV.idsLt _ _ = true) | exact (rfl : _ = AV.ren _ (.own _)) | exact (rfl : _ = AV.ren _ (.fn _ _)) | exact (rfl : _ = AV.ren _ (.gh _)) | (exact congrArg intV (by assumption)) | (refine congrArg intV ((wr_id (by omega) (by omega)).trans (by omega))) | exact rfl | (simp only [NLc]; first | exact rfl | done) | exact all0 | exact fun h => Bool.noConfusion h | exact fun _ _ _ _ => rfl | omega)
  conv => whnf
  repeat' (first
    | (refine NilG.mk fun bn hbn hbx => ?_; conv => whnf)
    | (refine Both.mk ?_ ?_ <;> conv => whnf)
    | ((first | (refine MkG.box 1 rfl rfl rfl (by decide) ?_) | (refine MkG.box 2 rfl rfl rfl (by decide) ?_) | (refine MkG.box 3 rfl rfl rfl (by decide) ?_) | (refine MkG.row ?_)); conv => whnf)
    | (refine LitG.row ?_; conv => whnf)
    | exact trivial
    | (refine Br.mk (fun hb => ?_) (fun hb => ?_) <;> (first | (exfalso; revert hb; decide) | ((try simp only [BL] at hb) <;> (try simp only [DL] at hb) <;> conv => whnf)))
    | (refine And.intro ?_ ?_; (focus (first | exact id | exact rfl | exact trivial | (intro hg; first | exact hg | exact rfl | (simp; done) | (simp at hg ⊢; assumption)) | omega | decide | exact is2_c _ _ _ | exact is1_c _ _ | exact isS_c _ _ | exact isB_c _ _ | exact Nat.le_refl _ | assumption | exact mulLe (by decide) (by omega) | exact mulLe2 (by decide) (by omega) (by omega) | (intros; simp only [BL] at *; omega) | (intros; (try simp only [BL] at *); (try simp only [DL] at *); omega) | (intros; simp only [BL] at *; rw [wr_id (by omega) (by omega)]; omega) | (intro h1 h2; exact Bool.and_eq_true_iff.2 ⟨h1, h2⟩) | (intros; simp_all; done))); conv => whnf)
    | (refine Or.inr (And.intro rfl ?_); first | (refine congrArg intV ?_) | (refine congrArg boolV ?_) | (refine tupII ?_ ?_) | (refine tupIII ?_ ?_ ?_) | (refine tupU ?_ ?_ ?_ ?_ ?_) | exact rfl))
  · exact (kd_low (by omega) (low_f hb)).symm
  · refine ⟨i + 1, [], ⟨by omega, fun k hk => by rcases Nat.lt_succ_iff_lt_or_eq.1 hk with h | rfl <;> first | exact hi.2 k h | exact low_t (by omega)⟩, by omega, ?_⟩
    refine Sub.of ?_ ?_ ?_
    repeat' (first | (refine And.intro ?_ ?_) | exact trivial | exact fun _ _ _ => hsc _ _ | (exact congrArg intV (by first | with_reducible rfl | with_reducible assumption)) | exact (rfl : AV.idsLt _ _ = true) | exact (rfl : _ = AV.ren _ (.own _)) | exact (rfl : _ = AV.ren _ (.fn _ _)) | exact (rfl : _ = AV.ren _ (.gh _)) | (exact congrArg intV (by assumption)) | (refine congrArg intV ((wr_id (by omega) (by omega)).trans (by omega))) | exact rfl | (simp only [NLc]; first | exact rfl | done) | exact all0 | exact fun h => Bool.noConfusion h | exact fun _ _ _ _ => rfl | omega)
  · obtain rfl : i = s.size := by omega
    rw [kd_all hi.2]
    congr 1
    · exact decide_eq_decide.2 (by omega)
    · exact decide_eq_decide.2 (by omega)
/-- an event's error -/
def evE (t : Int) (k n : ByteArray) (v : Int) : Int := if t < 0 ∨ 200000 < t then 12 else if kdB k = false ∨ nameB n = false then 6 else if v < -1000000 ∨ 1000000 < v then 4 else 0
theorem ev12 {t : Int} {k n : ByteArray} {v : Int} (h : t < 0 ∨ 200000 < t) : 12 = evE t k n v := (if_pos h).symm
theorem ev6 {t : Int} {k n : ByteArray} {v : Int} (h : ¬ (t < 0 ∨ 200000 < t)) (h2 : kdB k = false ∨ nameB n = false) : 6 = evE t k n v := by
  unfold evE
  rw [if_neg h, if_pos h2]
theorem ev4 {t : Int} {k n : ByteArray} {v : Int} (h : ¬ (t < 0 ∨ 200000 < t)) (h2 : ¬ (kdB k = false ∨ nameB n = false)) (h3 : v < -1000000 ∨ 1000000 < v) : 4 = evE t k n v := by
  unfold evE
  rw [if_neg h, if_neg h2, if_pos h3]
theorem ev0 {t : Int} {k n : ByteArray} {v : Int} (h : ¬ (t < 0 ∨ 200000 < t)) (h2 : ¬ (kdB k = false ∨ nameB n = false)) (h3 : ¬ (v < -1000000 ∨ 1000000 < v)) : 0 = evE t k n v := by
  unfold evE
  rw [if_neg h, if_neg h2, if_neg h3]
theorem ev_ok {t : Int} {k n : ByteArray} {v : Int} (h : evE t k n v = 0) : 0 ≤ t ∧ t ≤ 200000 ∧ kdB k = true ∧ nameB n = true ∧ -1000000 ≤ v ∧ v ≤ 1000000 := by
  unfold evE at h
  split at h
  · cases h
  · split at h
    · cases h
    · split at h
      · cases h
      · rename_i h1 h2 h3
        have h4 : kdB k = true ∧ nameB n = true := by
          constructor
          · exact eq_true_of_ne_false fun e => h2 (.inl e)
          · exact eq_true_of_ne_false fun e => h2 (.inr e)
        exact ⟨by omega, by omega, h4.1, h4.2, by omega, by omega⟩
abbrev evV (t : Int) (k n : ByteArray) (v : Int) : AV := .agg [intV t, strV k, strV n, intV v]
def gamAr1 : Gam := fun f => match f with
  | 38 => some (s1S (fun s => s.size ≤ maxLen) kdB)
  | 39 => some (s1S (fun s => s.size ≤ maxLen) nameB)
  | 40 => some (s1S (fun s => s.size ≤ maxLen) nameB)
  | 20 => some (s3 inB)
  | _ => none
theorem gamAr1_ok : GOk Tryd.prog gamAr1 := fun f g h => by
  unfold gamAr1 at h
  split at h
  · injection h with h; subst h; exact s1S_ok arKind
  · injection h with h; subst h; exact s1S_ok name1
  · injection h with h; subst h; exact s1S_ok named4
  · injection h with h; subst h; exact s3_ok in4
  · cases h
theorem arCheck (t : Int) (k n : ByteArray) (v : Int) (hk : k.size ≤ maxLen) (hn : n.size ≤ maxLen) : Fn1 Tryd.prog 10 [evV t k n v] (intV (evE t k n v)) := by
  refine fn_of_wpx (O := lex) tab_ok gamAr1_ok mixed Tryd.func10 (by kernel_rfl) rfl rfl rfl (by simp [Tryd.ntmps10]) (by kernel_rfl) ?_
  conv => whnf
  repeat' (first
    | (refine NilG.mk fun bn hbn hbx => ?_; conv => whnf)
    | (refine Both.mk ?_ ?_ <;> conv => whnf)
    | ((first | (refine MkG.box 1 rfl rfl rfl (by decide) ?_) | (refine MkG.box 2 rfl rfl rfl (by decide) ?_) | (refine MkG.box 3 rfl rfl rfl (by decide) ?_) | (refine MkG.row ?_)); conv => whnf)
    | (refine LitG.row ?_; conv => whnf)
    | exact trivial
    | (refine Br.mk (fun hb => ?_) (fun hb => ?_) <;> (first | (exfalso; revert hb; decide) | ((try simp only [BL] at hb) <;> (try simp only [DL] at hb) <;> conv => whnf)))
    | (refine And.intro ?_ ?_; (focus (first | exact id | exact rfl | exact trivial | (intro hg; first | exact hg | exact rfl | (simp; done) | (simp at hg ⊢; assumption)) | omega | decide | exact is2_c _ _ _ | exact is1_c _ _ | exact isS_c _ _ | exact isB_c _ _ | exact Nat.le_refl _ | assumption | exact mulLe (by decide) (by omega) | exact mulLe2 (by decide) (by omega) (by omega) | (intros; simp only [BL] at *; omega) | (intros; (try simp only [BL] at *); (try simp only [DL] at *); omega) | (intros; simp only [BL] at *; rw [wr_id (by omega) (by omega)]; omega) | (intro h1 h2; exact Bool.and_eq_true_iff.2 ⟨h1, h2⟩) | first | exact hk | exact hn | (intros; simp_all; done))); conv => whnf)
    | (refine Or.inr (And.intro rfl ?_); first | (refine congrArg intV ?_) | (refine congrArg boolV ?_) | (refine tupII ?_ ?_) | (refine tupIII ?_ ?_ ?_) | (refine tupU ?_ ?_ ?_ ?_ ?_) | exact rfl))
  · exact ev12 hb
  · rename_i h1
    exact ev6 (by omega) hb
  · rename_i h1 h2
    exact ev4 (by omega) (by rw [h2.1, h2.2]; decide) hb
  · rename_i h1 h2
    exact ev0 (by omega) (by rw [h2.1, h2.2]; decide) (by omega)
theorem kd_len {k : ByteArray} (h : k.size < 1 ∨ k.size > 8) : kdB k = false := by
  refine Bool.eq_false_iff.2 fun g => ?_
  simp only [kdB, BL] at g
  omega
theorem arErr (t : Int) (k n : ByteArray) (v : Int) (hk : k.size ≤ maxLen) (hn : n.size ≤ maxLen) : Fn1 Tryd.prog 11 [evV t k n v] (intV (evE t k n v)) := by
  refine fn_of_wpx (O := lex) tab_ok gamAr1_ok mixed Tryd.func11 (by kernel_rfl) rfl rfl rfl (by simp [Tryd.ntmps11]) (by kernel_rfl) ?_
  have hk' : k.size ≤ 9223372036854775807 := hk
  conv => whnf
  repeat' (first
    | (refine NilG.mk fun bn hbn hbx => ?_; conv => whnf)
    | (refine Both.mk ?_ ?_ <;> conv => whnf)
    | ((first | (refine MkG.box 1 rfl rfl rfl (by decide) ?_) | (refine MkG.box 2 rfl rfl rfl (by decide) ?_) | (refine MkG.box 3 rfl rfl rfl (by decide) ?_) | (refine MkG.row ?_)); conv => whnf)
    | (refine LitG.row ?_; conv => whnf)
    | exact trivial
    | (refine Br.mk (fun hb => ?_) (fun hb => ?_) <;> (first | (exfalso; revert hb; decide) | ((try simp only [BL] at hb) <;> (try simp only [DL] at hb) <;> conv => whnf)))
    | (refine And.intro ?_ ?_; (focus (first | exact id | exact rfl | exact trivial | (intro hg; first | exact hg | exact rfl | (simp; done) | (simp at hg ⊢; assumption)) | omega | decide | exact is2_c _ _ _ | exact is1_c _ _ | exact isS_c _ _ | exact isB_c _ _ | exact Nat.le_refl _ | assumption | exact mulLe (by decide) (by omega) | exact mulLe2 (by decide) (by omega) (by omega) | (intros; simp only [BL] at *; omega) | (intros; (try simp only [BL] at *); (try simp only [DL] at *); omega) | (intros; simp only [BL] at *; rw [wr_id (by omega) (by omega)]; omega) | (intro h1 h2; exact Bool.and_eq_true_iff.2 ⟨h1, h2⟩) | first | exact hk | exact hn | (intros; simp_all; done))); conv => whnf)
    | (refine Or.inr (And.intro rfl ?_); first | (refine congrArg intV ?_) | (refine congrArg boolV ?_) | (refine tupII ?_ ?_) | (refine tupIII ?_ ?_ ?_) | (refine tupU ?_ ?_ ?_ ?_ ?_) | exact rfl))
  · exact ev12 (by omega)
  · rename_i h1
    exact ev6 (by omega) (hb.imp (fun h => kd_len (by omega)) id)
  rename_i h1
  refine sem_loop tab_ok gamAr1_ok mixed (by kernel_rfl) (O := lex) (fun i : Nat => ⟨[(27, intV i), (26, intV k.size), (1, .lp 0 0)], [.box [intV t, strV k, strV n, intV v]]⟩) (fun i => i ≤ k.size ∧ ∀ j, j < i → lowB k j = true) (fun i => k.size - i) ⟨0, [?_], ⟨Nat.zero_le _, fun k hk => absurd hk (Nat.not_lt_zero _)⟩, ?_⟩ fun i hi => ?_
  rotate_left 1
  · refine Sub.of ?_ ?_ ?_
    repeat' (first | (refine And.intro ?_ ?_) | exact trivial | exact fun _ _ _ => hsc _ _ | (exact congrArg intV (by first | with_reducible rfl | with_reducible assumption)) | exact (rfl : AV.idsLt _ _ = true) | exact (rfl : _ = AV.ren _ (.own _)) | exact (rfl : _ = AV.ren _ (.fn _ _)) | exact (rfl : _ = AV.ren _ (.gh _)) | (exact congrArg intV (by assumption)) | (refine congrArg intV ((wr_id (by omega) (by omega)).trans (by omega))) | exact rfl | (simp only [NLc]; first | exact rfl | done) | exact all0 | exact fun h => Bool.noConfusion h | exact fun _ _ _ _ => rfl | omega)
  have hkd : i = k.size → kdB k = true := fun e => by
    subst e
    rw [kd_all hi.2]
    simp only [BL]
    omega
  conv => whnf
  repeat' (first
    | (refine NilG.mk fun bn hbn hbx => ?_; conv => whnf)
    | (refine Both.mk ?_ ?_ <;> conv => whnf)
    | ((first | (refine MkG.box 1 rfl rfl rfl (by decide) ?_) | (refine MkG.box 2 rfl rfl rfl (by decide) ?_) | (refine MkG.box 3 rfl rfl rfl (by decide) ?_) | (refine MkG.row ?_)); conv => whnf)
    | (refine LitG.row ?_; conv => whnf)
    | exact trivial
    | (refine Br.mk (fun hb => ?_) (fun hb => ?_) <;> (first | (exfalso; revert hb; decide) | ((try simp only [BL] at hb) <;> (try simp only [DL] at hb) <;> conv => whnf)))
    | (refine And.intro ?_ ?_; (focus (first | exact id | exact rfl | exact trivial | (intro hg; first | exact hg | exact rfl | (simp; done) | (simp at hg ⊢; assumption)) | omega | decide | exact is2_c _ _ _ | exact is1_c _ _ | exact isS_c _ _ | exact isB_c _ _ | exact Nat.le_refl _ | assumption | exact mulLe (by decide) (by omega) | exact mulLe2 (by decide) (by omega) (by omega) | (intros; simp only [BL] at *; omega) | (intros; (try simp only [BL] at *); (try simp only [DL] at *); omega) | (intros; simp only [BL] at *; rw [wr_id (by omega) (by omega)]; omega) | (intro h1 h2; exact Bool.and_eq_true_iff.2 ⟨h1, h2⟩) | (intros; simp_all; done))); conv => whnf)
    | (refine Or.inr (And.intro rfl ?_); first | (refine congrArg intV ?_) | (refine congrArg boolV ?_) | (refine tupII ?_ ?_) | (refine tupIII ?_ ?_ ?_) | (refine tupU ?_ ?_ ?_ ?_ ?_) | exact rfl))
  · exact ev6 (by omega) (.inl (kd_low (by omega) (low_f hb)))
  · refine ⟨i + 1, [?_], ⟨by omega, fun k hk => by rcases Nat.lt_succ_iff_lt_or_eq.1 hk with h | rfl <;> first | exact hi.2 k h | exact low_t (by omega)⟩, by omega, ?_⟩
    rotate_left 1
    refine Sub.of ?_ ?_ ?_
    repeat' (first | (refine And.intro ?_ ?_) | exact trivial | exact fun _ _ _ => hsc _ _ | (exact congrArg intV (by first | with_reducible rfl | with_reducible assumption)) | exact (rfl : AV.idsLt _ _ = true) | exact (rfl : _ = AV.ren _ (.own _)) | exact (rfl : _ = AV.ren _ (.fn _ _)) | exact (rfl : _ = AV.ren _ (.gh _)) | (exact congrArg intV (by assumption)) | (refine congrArg intV ((wr_id (by omega) (by omega)).trans (by omega))) | exact rfl | (simp only [NLc]; first | exact rfl | done) | exact all0 | exact fun h => Bool.noConfusion h | exact fun _ _ _ _ => rfl | omega)
  · rename_i h2 h3
    exact ev4 (by omega) (by rw [hkd (by omega), h2.2]; decide) (by omega)
  · rename_i h2 h3
    exact ev0 (by omega) (by rw [hkd (by omega), h2.2]; decide) (by omega)
end Go.Proofs.YtjfnhehjhicnoaaDoor
