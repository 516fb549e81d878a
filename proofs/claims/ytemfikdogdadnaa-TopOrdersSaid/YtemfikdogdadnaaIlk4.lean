/-
  The package interlock: the values of conditions.
-/
import Derived.Test.YtemfikdogdadnaaIlk3
namespace Go.Proofs.Ytemfikdogdadnaa
open Go.RowKit

theorem hov_eq {s : Sts} {c : Cnd} (hc : gdC c) {i : Nat} (h : i < c.n) : hoV s c i = if c.kd i = 0 then true else if c.kd i = 2 then opN s c i else if c.kd i = 3 then clN s c i else if c.kd i = 4 then !hoV s c (c.a i).toNat else
    if c.kd i = 5 then hoV s c (c.a i).toNat && hoV s c (c.b i).toNat else if c.kd i = 6 then hoV s c (c.a i).toNat || hoV s c (c.b i).toNat else false := hv_eq hc h
set_option maxHeartbeats 4000000 in
theorem ilHolds (c : Cnd) (s : Sts) (hc : gdC c) (hc0 : 0 < c.n) (hn : c.n ≤ 40) (hs : s.n ≤ 32) : Fn1 Try.prog 106 [cV c, stV s] (boolV (hoV s c (c.n - 1))) := by
  refine fn_of_wpx (O := lex) tab_ok gamI4_ok mixed Try.func106 (by kernel_rfl) rfl rfl rfl (by simp [Try.ntmps106]) (by kernel_rfl) ?_
  conv => whnf
  repeat' (first
    | (refine NilG.mk fun bn hbn hbx => ?_; conv => whnf)
    | (refine Both.mk ?_ ?_ <;> conv => whnf)
    | ((first | (refine MkG.box 1 rfl rfl rfl (by decide) ?_) | (refine MkG.box 2 rfl rfl rfl (by decide) ?_) | (refine MkG.box 3 rfl rfl rfl (by decide) ?_) | (refine MkG.row ?_)); conv => whnf)
    | exact trivial
    | (refine Br.mk (fun hb => ?_) (fun hb => ?_) <;> (first | (exfalso; revert hb; decide) | ((try simp only [BL] at hb) <;> (try simp only [DL] at hb) <;> conv => whnf)))
    | (refine And.intro ?_ ?_; (focus (first | exact id | exact rfl | exact trivial | (intro hg; first | exact hg | exact rfl | (simp; done) | (simp at hg ⊢; assumption)) | omega | decide | exact is2_c _ _ _ | exact is1_c _ _ | exact isS_c _ _ | exact isB_c _ _ | exact Nat.le_refl _ | assumption | exact mulLe (by decide) (by omega) | exact mulLe2 (by decide) (by omega) (by omega) | (intros; simp only [BL] at *; omega) | (intros; (try simp only [BL] at *); (try simp only [DL] at *); omega) | (intros; simp only [BL] at *; rw [wr_id (by omega) (by omega)]; omega) | (intro h1 h2; exact Bool.and_eq_true_iff.2 ⟨h1, h2⟩) | (intros; simp_all; done))); conv => whnf)
    | (refine Or.inr (And.intro rfl ?_); first | (refine congrArg intV ?_) | (refine congrArg boolV ?_) | (refine tupII ?_ ?_) | (refine tupIII ?_ ?_ ?_) | (refine tupU ?_ ?_ ?_ ?_ ?_) | exact rfl))
  refine sem_loop tab_ok gamI4_ok mixed (by kernel_rfl) (O := lex) (fun i : Nat => ⟨[(0, cV c), (1, stV s), (5, .own 0), (12, cV c), (13, intV c.n), (14, intV i)], [.row 4 1 c.n false (cB fun k => if k < i then hoV s c k else false)]⟩) (fun i => i ≤ c.n) (fun i => c.n - i) ⟨0, [?_], Nat.zero_le _, ?_⟩ fun i hi => ?_
  rotate_left 1
  · refine Sub.of ?_ ?_ ?_
    repeat' (first | (refine And.intro ?_ ?_) | exact trivial | exact fun _ _ _ => hsc _ _ | (exact congrArg intV (by first | with_reducible rfl | with_reducible assumption)) | exact (rfl : AV.idsLt _ _ = true) | exact (rfl : _ = AV.ren _ (.own _)) | exact (rfl : _ = AV.ren _ (.fn _ _)) | exact (rfl : _ = AV.ren _ (.gh _)) | (exact congrArg intV (by assumption)) | (refine congrArg intV ((wr_id (by omega) (by omega)).trans (by omega))) | exact rfl | (simp only [Int.toNat_natCast, Int.toNat_zero, Nat.sub_zero, Nat.zero_add]; first | exact rfl | done) | exact all0 | exact fun h => Bool.noConfusion h | exact fun _ _ _ _ => rfl | omega)
    · intro k _ b hb
      have hb : b < 1 := hb
      obtain rfl : b = 0 := by omega
      show _ = bL (if k < 0 then _ else false)
      rw [if_neg (Nat.not_lt_zero k)]
      rfl
  have facts : i < c.n → (c.kd i = 4 → 0 ≤ c.a ((i : Nat) : Int).toNat ∧ c.a ((i : Nat) : Int).toNat < i) ∧ (c.kd i = 5 ∨ c.kd i = 6 → (0 ≤ c.a ((i : Nat) : Int).toNat ∧ c.a ((i : Nat) : Int).toNat < i) ∧ 0 ≤ c.b ((i : Nat) : Int).toNat ∧ c.b ((i : Nat) : Int).toNat < i) := fun h => by
    obtain ⟨_, _, g4, g5, _⟩ := nodE_zero (hc i h)
    rw [Int.toNat_natCast]
    refine ⟨fun q => ?_, fun q => ?_⟩
    · have := g4 q; omega
    · have := g5 q
      have := sp_le c (k := (i : Int) - 1) (by omega)
      omega
  have hve := hov_eq (s := s) hc (i := i)
  have rowT : ∀ v : Bool, v = hoV s c i → ∀ k, k < c.n → ∀ b, b < 1 → (if k = i then (if 0 ≤ b ∧ b < 0 + 1 then ([bL v][b - 0]?).getD .un else cB (fun k => if k < i then hoV s c k else false) k b) else cB (fun k => if k < i then hoV s c k else false) k b) = cB (fun k => if k < i + 1 then hoV s c k else false) k b := fun v hv k hk b hb => by
    obtain rfl : b = 0 := by omega
    by_cases e : k = i
    · rw [if_pos e, if_pos ⟨Nat.le_refl _, Nat.zero_lt_one⟩, hv, e]
      show bL _ = bL (if i < i + 1 then _ else false)
      rw [if_pos (by omega)]
    · rw [if_neg e]
      show bL (if k < i then hoV s c k else false) = bL (if k < i + 1 then hoV s c k else false)
      by_cases e2 : k < i
      · rw [if_pos e2, if_pos (by omega)]
      · rw [if_neg e2, if_neg (by omega)]
  conv => whnf
  repeat' (first
    | (refine NilG.mk fun bn hbn hbx => ?_; conv => whnf)
    | (refine Both.mk ?_ ?_ <;> conv => whnf)
    | ((first | (refine MkG.box 1 rfl rfl rfl (by decide) ?_) | (refine MkG.box 2 rfl rfl rfl (by decide) ?_) | (refine MkG.box 3 rfl rfl rfl (by decide) ?_) | (refine MkG.row ?_)); conv => whnf)
    | exact trivial
    | (refine Br.mk (fun hb => ?_) (fun hb => ?_) <;> (first | (exfalso; revert hb; decide) | ((try simp only [BL] at hb) <;> (try simp only [DL] at hb) <;> conv => whnf)))
    | (refine And.intro ?_ ?_; (focus (first | exact id | exact rfl | exact trivial | (intro hg; first | exact hg | exact rfl | (simp; done) | (simp at hg ⊢; assumption)) | omega | decide | exact is2_c _ _ _ | exact is1_c _ _ | exact isS_c _ _ | exact isB_c _ _ | exact Nat.le_refl _ | assumption | exact mulLe (by decide) (by omega) | exact mulLe2 (by decide) (by omega) (by omega) | (intros; simp only [BL] at *; omega) | (intros; (try simp only [BL] at *); (try simp only [DL] at *); omega) | (intros; simp only [BL] at *; rw [wr_id (by omega) (by omega)]; omega) | (intro h1 h2; exact Bool.and_eq_true_iff.2 ⟨h1, h2⟩) | exact ⟨isSt_c s _, show s.n ≤ maxLen by unfold maxLen; omega⟩ | (intro hg; simp only [BL] at hg; exact ⟨hg, fidx_up _ _⟩) | (have := facts (by omega); omega) | (intro hg; have := facts (by omega); omega) | (intros; simp_all; done))); conv => whnf)
    | (refine Or.inr (And.intro rfl ?_); first | (refine congrArg intV ?_) | (refine congrArg boolV ?_) | (refine tupII ?_ ?_) | (refine tupIII ?_ ?_ ?_) | (refine tupU ?_ ?_ ?_ ?_ ?_) | exact rfl))
  · have hin : i < c.n := by omega
    refine ⟨i + 1, [?_], by omega, by omega, ?_⟩
    rotate_left 1
    refine Sub.of ?_ ?_ ?_
    repeat' (first | (refine And.intro ?_ ?_) | exact trivial | exact fun _ _ _ => hsc _ _ | (exact congrArg intV (by first | with_reducible rfl | with_reducible assumption)) | exact (rfl : AV.idsLt _ _ = true) | exact (rfl : _ = AV.ren _ (.own _)) | exact (rfl : _ = AV.ren _ (.fn _ _)) | exact (rfl : _ = AV.ren _ (.gh _)) | (exact congrArg intV (by assumption)) | (refine congrArg intV ((wr_id (by omega) (by omega)).trans (by omega))) | exact rfl | (simp only [Int.toNat_natCast, Int.toNat_zero, Nat.sub_zero, Nat.zero_add]; first | exact rfl | done) | exact all0 | exact fun h => Bool.noConfusion h | exact fun _ _ _ _ => rfl | omega)
    · exact rowT _ (by rw [hve hin, if_pos hb])
  · have hin : i < c.n := by omega
    refine ⟨i + 1, [?_], by omega, by omega, ?_⟩
    rotate_left 1
    refine Sub.of ?_ ?_ ?_
    repeat' (first | (refine And.intro ?_ ?_) | exact trivial | exact fun _ _ _ => hsc _ _ | (exact congrArg intV (by first | with_reducible rfl | with_reducible assumption)) | exact (rfl : AV.idsLt _ _ = true) | exact (rfl : _ = AV.ren _ (.own _)) | exact (rfl : _ = AV.ren _ (.fn _ _)) | exact (rfl : _ = AV.ren _ (.gh _)) | (exact congrArg intV (by assumption)) | (refine congrArg intV ((wr_id (by omega) (by omega)).trans (by omega))) | exact rfl | (simp only [Int.toNat_natCast, Int.toNat_zero, Nat.sub_zero, Nat.zero_add]; first | exact rfl | done) | exact all0 | exact fun h => Bool.noConfusion h | exact fun _ _ _ _ => rfl | omega)
    · exact rowT _ (by rw [hve hin, if_neg (by omega), if_pos hb]; rfl)
  · have hin : i < c.n := by omega
    refine ⟨i + 1, [?_], by omega, by omega, ?_⟩
    rotate_left 1
    refine Sub.of ?_ ?_ ?_
    repeat' (first | (refine And.intro ?_ ?_) | exact trivial | exact fun _ _ _ => hsc _ _ | (exact congrArg intV (by first | with_reducible rfl | with_reducible assumption)) | exact (rfl : AV.idsLt _ _ = true) | exact (rfl : _ = AV.ren _ (.own _)) | exact (rfl : _ = AV.ren _ (.fn _ _)) | exact (rfl : _ = AV.ren _ (.gh _)) | (exact congrArg intV (by assumption)) | (refine congrArg intV ((wr_id (by omega) (by omega)).trans (by omega))) | exact rfl | (simp only [Int.toNat_natCast, Int.toNat_zero, Nat.sub_zero, Nat.zero_add]; first | exact rfl | done) | exact all0 | exact fun h => Bool.noConfusion h | exact fun _ _ _ _ => rfl | omega)
    · exact rowT _ (by rw [hve hin, if_neg (by omega), if_neg (by omega), if_pos hb]; rfl)
  · have hin : i < c.n := by omega
    have ha := (facts hin).1 hb
    rw [Int.toNat_natCast] at ha
    refine ⟨i + 1, [?_], by omega, by omega, ?_⟩
    rotate_left 1
    refine Sub.of ?_ ?_ ?_
    repeat' (first | (refine And.intro ?_ ?_) | exact trivial | exact fun _ _ _ => hsc _ _ | (exact congrArg intV (by first | with_reducible rfl | with_reducible assumption)) | exact (rfl : AV.idsLt _ _ = true) | exact (rfl : _ = AV.ren _ (.own _)) | exact (rfl : _ = AV.ren _ (.fn _ _)) | exact (rfl : _ = AV.ren _ (.gh _)) | (exact congrArg intV (by assumption)) | (refine congrArg intV ((wr_id (by omega) (by omega)).trans (by omega))) | exact rfl | (simp only [Int.toNat_natCast, Int.toNat_zero, Nat.sub_zero, Nat.zero_add]; first | exact rfl | done) | exact all0 | exact fun h => Bool.noConfusion h | exact fun _ _ _ _ => rfl | omega)
    · refine rowT _ ?_
      rw [hve hin, if_neg (by omega), if_neg (by omega), if_neg (by omega), if_pos hb]
      show (!(if (c.a i).toNat < i then hoV s c (c.a i).toNat else false)) = _
      rw [if_pos (by omega)]
  · have hin : i < c.n := by omega
    have ha := (facts hin).2 (.inl hb)
    rw [Int.toNat_natCast] at ha
    refine ⟨i + 1, [?_], by omega, by omega, ?_⟩
    rotate_left 1
    refine Sub.of ?_ ?_ ?_
    repeat' (first | (refine And.intro ?_ ?_) | exact trivial | exact fun _ _ _ => hsc _ _ | (exact congrArg intV (by first | with_reducible rfl | with_reducible assumption)) | exact (rfl : AV.idsLt _ _ = true) | exact (rfl : _ = AV.ren _ (.own _)) | exact (rfl : _ = AV.ren _ (.fn _ _)) | exact (rfl : _ = AV.ren _ (.gh _)) | (exact congrArg intV (by assumption)) | (refine congrArg intV ((wr_id (by omega) (by omega)).trans (by omega))) | exact rfl | (simp only [Int.toNat_natCast, Int.toNat_zero, Nat.sub_zero, Nat.zero_add]; first | exact rfl | done) | exact all0 | exact fun h => Bool.noConfusion h | exact fun _ _ _ _ => rfl | omega)
    · refine rowT _ ?_
      rw [hve hin, if_neg (by omega), if_neg (by omega), if_neg (by omega), if_neg (by omega), if_pos hb]
      show ((if (c.a i).toNat < i then hoV s c (c.a i).toNat else false) && (if (c.b i).toNat < i then hoV s c (c.b i).toNat else false)) = _
      rw [if_pos (by omega), if_pos (by omega)]
  · have hin : i < c.n := by omega
    have ha := (facts hin).2 (.inr hb)
    rw [Int.toNat_natCast] at ha
    refine ⟨i + 1, [?_], by omega, by omega, ?_⟩
    rotate_left 1
    refine Sub.of ?_ ?_ ?_
    repeat' (first | (refine And.intro ?_ ?_) | exact trivial | exact fun _ _ _ => hsc _ _ | (exact congrArg intV (by first | with_reducible rfl | with_reducible assumption)) | exact (rfl : AV.idsLt _ _ = true) | exact (rfl : _ = AV.ren _ (.own _)) | exact (rfl : _ = AV.ren _ (.fn _ _)) | exact (rfl : _ = AV.ren _ (.gh _)) | (exact congrArg intV (by assumption)) | (refine congrArg intV ((wr_id (by omega) (by omega)).trans (by omega))) | exact rfl | (simp only [Int.toNat_natCast, Int.toNat_zero, Nat.sub_zero, Nat.zero_add]; first | exact rfl | done) | exact all0 | exact fun h => Bool.noConfusion h | exact fun _ _ _ _ => rfl | omega)
    · refine rowT _ ?_
      rw [hve hin, if_neg (by omega), if_neg (by omega), if_neg (by omega), if_neg (by omega), if_neg (by omega), if_pos hb]
      show ((if (c.a i).toNat < i then hoV s c (c.a i).toNat else false) || (if (c.b i).toNat < i then hoV s c (c.b i).toNat else false)) = _
      rw [if_pos (by omega), if_pos (by omega)]
  · have hin : i < c.n := by omega
    have hf : hoV s c i = false := by rw [hve hin, if_neg (by omega), if_neg (by omega), if_neg (by omega), if_neg (by omega), if_neg (by omega), if_neg (by omega)]
    refine ⟨i + 1, [?_], by omega, by omega, ?_⟩
    rotate_left 1
    refine Sub.of ?_ ?_ ?_
    repeat' (first | (refine And.intro ?_ ?_) | exact trivial | exact fun _ _ _ => hsc _ _ | (exact congrArg intV (by first | with_reducible rfl | with_reducible assumption)) | exact (rfl : AV.idsLt _ _ = true) | exact (rfl : _ = AV.ren _ (.own _)) | exact (rfl : _ = AV.ren _ (.fn _ _)) | exact (rfl : _ = AV.ren _ (.gh _)) | (exact congrArg intV (by assumption)) | (refine congrArg intV ((wr_id (by omega) (by omega)).trans (by omega))) | exact rfl | (simp only [Int.toNat_natCast, Int.toNat_zero, Nat.sub_zero, Nat.zero_add]; first | exact rfl | done) | exact all0 | exact fun h => Bool.noConfusion h | exact fun _ _ _ _ => rfl | omega)
    · intro k hk b hb
      obtain rfl : b = 0 := by omega
      show bL (if k < i then hoV s c k else false) = bL (if k < i + 1 then hoV s c k else false)
      by_cases e2 : k < i
      · rw [if_pos e2, if_pos (by omega)]
      · rw [if_neg e2]
        by_cases e : k = i
        · rw [e, if_pos (by omega), hf]
        · rw [if_neg (by omega)]
  · have hwn : IntKind.i64.wrap ((c.n : Int) - 1) = (c.n - 1 : Nat) := (wr_id (by omega) (by omega)).trans (by omega)
    refine And.intro ⟨rfl, by rw [hwn]; omega, by decide⟩ ?_
    conv => whnf
    repeat' (first
      | (refine NilG.mk fun bn hbn hbx => ?_; conv => whnf)
      | (refine Both.mk ?_ ?_ <;> conv => whnf)
      | ((first | (refine MkG.box 1 rfl rfl rfl (by decide) ?_) | (refine MkG.box 2 rfl rfl rfl (by decide) ?_) | (refine MkG.box 3 rfl rfl rfl (by decide) ?_) | (refine MkG.row ?_)); conv => whnf)
      | exact trivial
      | (refine Br.mk (fun hb => ?_) (fun hb => ?_) <;> (first | (exfalso; revert hb; decide) | ((try simp only [BL] at hb) <;> (try simp only [DL] at hb) <;> conv => whnf)))
      | (refine And.intro ?_ ?_; (focus (first | exact id | exact rfl | exact trivial | (intro hg; first | exact hg | exact rfl | (simp; done) | (simp at hg ⊢; assumption)) | omega | decide | exact is2_c _ _ _ | exact is1_c _ _ | exact isS_c _ _ | exact isB_c _ _ | exact Nat.le_refl _ | assumption | exact mulLe (by decide) (by omega) | exact mulLe2 (by decide) (by omega) (by omega) | (intros; simp only [BL] at *; omega) | (intros; (try simp only [BL] at *); (try simp only [DL] at *); omega) | (intros; simp only [BL] at *; rw [wr_id (by omega) (by omega)]; omega) | (intro h1 h2; exact Bool.and_eq_true_iff.2 ⟨h1, h2⟩) | (intros; simp_all; done))); conv => whnf)
      | (refine Or.inr (And.intro rfl ?_); first | (refine congrArg intV ?_) | (refine congrArg boolV ?_) | (refine tupII ?_ ?_) | (refine tupIII ?_ ?_ ?_) | (refine tupU ?_ ?_ ?_ ?_ ?_) | exact rfl))
    · show (if (IntKind.i64.wrap ((c.n : Int) - 1)).toNat < i then hoV s c (IntKind.i64.wrap ((c.n : Int) - 1)).toNat else false) = _
      rw [hwn, Int.toNat_natCast, if_pos (by omega)]

theorem fidx_succ (b : Nat → Bool) (n : Nat) : fidx b (n + 1) = if fidx b n ≥ 0 then fidx b n else if b n = true then n else -1 := by
  unfold fidx
  simp only [ffind]
  cases h : ffind b n with
  | some i => simp
  | none =>
    simp only []
    by_cases hb : b n = true
    · simp [hb]
    · simp [hb]
/-- no name is twice there -/
def unq (s : Sts) : Prop := ∀ i, i < s.n → ∀ k, k < i → sameN s.nm (s.nm i) k = false
theorem unq_of {s : Sts} (h : stsE s = 0) : unq s ∧ s.n ≤ 32 := by
  unfold stsE at h
  split at h
  · cases h
  · refine ⟨fun i hi => ?_, by omega⟩
    have h1 := fst_zero h i hi
    unfold stsK at h1
    split at h1
    · cases h1
    · split at h1
      · cases h1
      · rename_i h2
        unfold dupB at h2
        exact fidx_neg (by simpa using h2)
theorem unq_first {s : Sts} (h : unq s) {nm : ByteArray} {i : Nat} (hi : i < s.n) (hb : sameN s.nm nm i = true) : fidx (sameN s.nm nm) i < 0 := by
  have : fidx (sameN s.nm nm) i = -1 := fidx_none fun k hk => by
    have h1 := h i hi k hk
    refine Bool.eq_false_iff.2 fun h2 => ?_
    unfold sameN at h1 h2 hb
    have e1 := eq_of_beq h2
    have e2 := eq_of_beq hb
    rw [e1, e2] at h1
    simp at h1
  omega

def sHo (s : Sts) (c : Cnd) (K : Nat) : List AV → Sd × AV
  | [.c (.sl 4 n f), .c (.v (.int .i64 k)), .c (.sl 2 m g)] => (.p (n = c.n ∧ Sh n 4 f (cN c) ∧ m = s.n ∧ Sh m 2 g (cSt s) ∧ 0 ≤ k ∧ k < K), boolV (hoV s c k.toNat))
  | _ => (.p False, .top)
def gamH (s : Sts) (c : Cnd) (K : Nat) : Gam := fun f => match f with
  | 113 => some (sHo s c K)
  | _ => none
theorem gamH_ok (s : Sts) (c : Cnd) (K : Nat) (ih : ∀ k : Int, 0 ≤ k → k < K → Fn1 Try.prog 113 [cV c, intV k, stV s] (boolV (hoV s c k.toNat))) : GOk Try.prog (gamH s c K) := fun f g h => by
  unfold gamH at h
  split at h
  · injection h with h; subst h
    intro args hs _
    unfold sHo at hs ⊢
    split at hs
    · obtain ⟨h1, h2, h3, h4, h5, h6⟩ := hs
      subst h1 h3
      exact (ih _ h5 h6).le (Le.cons (Le1.sl h2) (Le.cons (Le1.refl _) (Le.cons (Le1.sl h4) Le.nil)))
    · exact hs.elim
  · cases h

set_option maxHeartbeats 4000000 in
theorem rfHolds0 (c : Cnd) (s : Sts) (hc : gdC c) (hn : c.n ≤ 40) (hu : unq s) (hs : s.n ≤ 32) (K : Nat) (hK : K < c.n) (ih : ∀ k : Int, 0 ≤ k → k < K → Fn1 Try.prog 113 [cV c, intV k, stV s] (boolV (hoV s c k.toNat))) : Fn1 Try.prog 113 [cV c, intV K, stV s] (boolV (hoV s c K)) := by
  refine fn_of_wpx (O := lex) tab_ok (gamH_ok s c K ih) mixed Try.func113 (by kernel_rfl) rfl rfl rfl (by simp [Try.ntmps113]) (by kernel_rfl) ?_
  conv => whnf
  repeat' (first
    | (refine NilG.mk fun bn hbn hbx => ?_; conv => whnf)
    | (refine Both.mk ?_ ?_ <;> conv => whnf)
    | ((first | (refine MkG.box 1 rfl rfl rfl (by decide) ?_) | (refine MkG.box 2 rfl rfl rfl (by decide) ?_) | (refine MkG.box 3 rfl rfl rfl (by decide) ?_) | (refine MkG.row ?_)); conv => whnf)
    | exact trivial
    | (refine Br.mk (fun hb => ?_) (fun hb => ?_) <;> (first | (exfalso; revert hb; decide) | ((try simp only [BL] at hb) <;> (try simp only [DL] at hb) <;> conv => whnf)))
    | (refine And.intro ?_ ?_; (focus (first | exact id | exact rfl | exact trivial | (intro hg; first | exact hg | exact rfl | (simp; done) | (simp at hg ⊢; assumption)) | omega | decide | exact is2_c _ _ _ | exact is1_c _ _ | exact isS_c _ _ | exact isB_c _ _ | exact Nat.le_refl _ | assumption | exact mulLe (by decide) (by omega) | exact mulLe2 (by decide) (by omega) (by omega) | (intros; simp only [BL] at *; omega) | (intros; (try simp only [BL] at *); (try simp only [DL] at *); omega) | (intros; simp only [BL] at *; rw [wr_id (by omega) (by omega)]; omega) | (intro h1 h2; exact Bool.and_eq_true_iff.2 ⟨h1, h2⟩) | (intros; simp_all; done))); conv => whnf)
    | (refine Or.inr (And.intro rfl ?_); first | (refine congrArg intV ?_) | (refine congrArg boolV ?_) | (refine tupII ?_ ?_) | (refine tupIII ?_ ?_ ?_) | (refine tupU ?_ ?_ ?_ ?_ ?_) | exact rfl))
  refine sem_loop tab_ok (gamH_ok s c K ih) mixed (by kernel_rfl) (O := lex) (fun i : Nat => ⟨[(0, cV c), (2, stV s), (7, .lp 0 0), (8, boolV (decide (fidx (sameN s.nm (c.nm K)) i ≥ 0))), (9, boolV (decide (fidx (sameN s.nm (c.nm K)) i ≥ 0) && s.cl (fidx (sameN s.nm (c.nm K)) i).toNat)), (16, stV s), (17, intV s.n), (18, intV i)], [.box [intV (c.kd K), strV (c.nm K), intV (c.a K), intV (c.b K)]]⟩) (fun i => i ≤ s.n) (fun i => s.n - i) ⟨0, [?_], Nat.zero_le _, ?_⟩ fun i hi => ?_
  rotate_left 1
  · refine Sub.of ?_ ?_ ?_
    repeat' (first | (refine And.intro ?_ ?_) | exact trivial | exact rfl)
  have hsc := fidx_succ (sameN s.nm (c.nm K)) i
  have hve := hov_eq (s := s) hc hK
  obtain ⟨_, _, g4, g5, _⟩ := nodE_zero (hc K hK)
  have g5' := fun q => And.intro (g5 q) (sp_le c (k := (K : Int) - 1) (by have := (g5 q).2.2.2; omega))
  conv => whnf
  repeat' (first
    | (refine NilG.mk fun bn hbn hbx => ?_; conv => whnf)
    | (refine Both.mk ?_ ?_ <;> conv => whnf)
    | ((first | (refine MkG.box 1 rfl rfl rfl (by decide) ?_) | (refine MkG.box 2 rfl rfl rfl (by decide) ?_) | (refine MkG.box 3 rfl rfl rfl (by decide) ?_) | (refine MkG.row ?_)); conv => whnf)
    | exact trivial
    | (refine Br.mk (fun hb => ?_) (fun hb => ?_) <;> (first | (exfalso; revert hb; decide) | ((try simp only [BL] at hb) <;> (try simp only [DL] at hb) <;> conv => whnf)))
    | (refine And.intro ?_ ?_; (focus (first | exact id | exact rfl | exact trivial | (intro hg; first | exact hg | exact rfl | (simp; done) | (simp at hg ⊢; assumption)) | omega | decide | exact is2_c _ _ _ | exact is1_c _ _ | exact isS_c _ _ | exact isB_c _ _ | exact Nat.le_refl _ | assumption | exact mulLe (by decide) (by omega) | exact mulLe2 (by decide) (by omega) (by omega) | (intros; simp only [BL] at *; omega) | (intros; (try simp only [BL] at *); (try simp only [DL] at *); omega) | (intros; simp only [BL] at *; rw [wr_id (by omega) (by omega)]; omega) | (intro h1 h2; exact Bool.and_eq_true_iff.2 ⟨h1, h2⟩) | (intros; simp_all; done))); conv => whnf)
    | (refine Or.inr (And.intro rfl ?_); first | (refine congrArg intV ?_) | (refine congrArg boolV ?_) | (refine tupII ?_ ?_) | (refine tupIII ?_ ?_ ?_) | (refine tupU ?_ ?_ ?_ ?_ ?_) | exact rfl))
  · have hin : i < s.n := by omega
    have hb' : sameN s.nm (c.nm K) i = true := hb
    have hf := unq_first hu hin hb'
    rw [if_neg (by omega), if_pos hb'] at hsc
    have e8 : true = decide (fidx (sameN s.nm (c.nm K)) (i + 1) ≥ 0) := by rw [hsc]; simp
    have e9 : s.cl i = (decide (fidx (sameN s.nm (c.nm K)) (i + 1) ≥ 0) && s.cl (fidx (sameN s.nm (c.nm K)) (i + 1)).toNat) := by rw [hsc]; simp
    refine ⟨i + 1, [?_], by omega, by omega, ?_⟩
    rotate_left 1
    refine Sub.of ?_ ?_ ?_
    repeat' (first | (refine And.intro ?_ ?_) | exact trivial | exact congrArg boolV e8 | exact congrArg boolV e9 | (refine congrArg intV ((wr_id (by omega) (by omega)).trans (by omega))) | exact rfl)
  · have hin : i < s.n := by omega
    have hb' : sameN s.nm (c.nm K) i = false := hb
    have hf : fidx (sameN s.nm (c.nm K)) (i + 1) = fidx (sameN s.nm (c.nm K)) i ∨ fidx (sameN s.nm (c.nm K)) (i + 1) < 0 ∧ fidx (sameN s.nm (c.nm K)) i < 0 := by
      rw [hsc]
      by_cases h : fidx (sameN s.nm (c.nm K)) i ≥ 0
      · rw [if_pos h]; exact .inl rfl
      · rw [if_neg h, if_neg (by rw [hb']; decide)]; exact .inr ⟨by omega, by omega⟩
    have e8 : decide (fidx (sameN s.nm (c.nm K)) i ≥ 0) = decide (fidx (sameN s.nm (c.nm K)) (i + 1) ≥ 0) := by
      rcases hf with h | h
      · rw [h]
      · rw [decide_eq_false (by omega), decide_eq_false (by omega)]
    have e9 : (decide (fidx (sameN s.nm (c.nm K)) i ≥ 0) && s.cl (fidx (sameN s.nm (c.nm K)) i).toNat) = (decide (fidx (sameN s.nm (c.nm K)) (i + 1) ≥ 0) && s.cl (fidx (sameN s.nm (c.nm K)) (i + 1)).toNat) := by
      rcases hf with h | h
      · rw [h]
      · rw [decide_eq_false (by omega : ¬ fidx (sameN s.nm (c.nm K)) i ≥ 0), decide_eq_false (by omega : ¬ fidx (sameN s.nm (c.nm K)) (i + 1) ≥ 0)]; rfl
    refine ⟨i + 1, [?_], by omega, by omega, ?_⟩
    rotate_left 1
    refine Sub.of ?_ ?_ ?_
    repeat' (first | (refine And.intro ?_ ?_) | exact trivial | exact congrArg boolV e8 | exact congrArg boolV e9 | (refine congrArg intV ((wr_id (by omega) (by omega)).trans (by omega))) | exact rfl)
  · rw [hve, if_pos hb]
  · have hin : i = s.n := by omega
    rw [hve, if_neg (by omega), if_pos hb, hin]
    unfold opN sIx
    cases decide (fidx (sameN s.nm (c.nm K)) s.n ≥ 0) <;> rfl
  · have hin : i = s.n := by omega
    rw [hve, if_neg (by omega), if_neg (by omega), if_pos hb, hin]
    unfold clN sIx
    cases decide (fidx (sameN s.nm (c.nm K)) s.n ≥ 0) <;> rfl
  · have q := g4 hb
    refine And.intro ⟨rfl, fun _ _ _ _ => rfl, rfl, fun _ _ _ _ => rfl, by omega, by omega⟩ ?_
    conv => whnf
    repeat' (first
      | (refine NilG.mk fun bn hbn hbx => ?_; conv => whnf)
      | (refine Both.mk ?_ ?_ <;> conv => whnf)
      | ((first | (refine MkG.box 1 rfl rfl rfl (by decide) ?_) | (refine MkG.box 2 rfl rfl rfl (by decide) ?_) | (refine MkG.box 3 rfl rfl rfl (by decide) ?_) | (refine MkG.row ?_)); conv => whnf)
      | exact trivial
      | (refine Br.mk (fun hb => ?_) (fun hb => ?_) <;> (first | (exfalso; revert hb; decide) | ((try simp only [BL] at hb) <;> (try simp only [DL] at hb) <;> conv => whnf)))
      | (refine And.intro ?_ ?_; (focus (first | exact id | exact rfl | exact trivial | (intro hg; first | exact hg | exact rfl | (simp; done) | (simp at hg ⊢; assumption)) | omega | decide | exact is2_c _ _ _ | exact is1_c _ _ | exact isS_c _ _ | exact isB_c _ _ | exact Nat.le_refl _ | assumption | exact mulLe (by decide) (by omega) | exact mulLe2 (by decide) (by omega) (by omega) | (intros; simp only [BL] at *; omega) | (intros; (try simp only [BL] at *); (try simp only [DL] at *); omega) | (intros; simp only [BL] at *; rw [wr_id (by omega) (by omega)]; omega) | (intro h1 h2; exact Bool.and_eq_true_iff.2 ⟨h1, h2⟩) | (intros; simp_all; done))); conv => whnf)
      | (refine Or.inr (And.intro rfl ?_); first | (refine congrArg intV ?_) | (refine congrArg boolV ?_) | (refine tupII ?_ ?_) | (refine tupIII ?_ ?_ ?_) | (refine tupU ?_ ?_ ?_ ?_ ?_) | exact rfl))
    · rw [hve, if_neg (by omega), if_neg (by omega), if_neg (by omega), if_pos hb]
  · have q := g5' (.inl hb)
    have h56 : c.kd K = 5 ∨ c.kd K = 6 := .inl hb
    refine And.intro ⟨rfl, fun _ _ _ _ => rfl, rfl, fun _ _ _ _ => rfl, by omega, by omega⟩ ?_
    conv => whnf
    repeat' (first
      | (refine NilG.mk fun bn hbn hbx => ?_; conv => whnf)
      | (refine Both.mk ?_ ?_ <;> conv => whnf)
      | ((first | (refine MkG.box 1 rfl rfl rfl (by decide) ?_) | (refine MkG.box 2 rfl rfl rfl (by decide) ?_) | (refine MkG.box 3 rfl rfl rfl (by decide) ?_) | (refine MkG.row ?_)); conv => whnf)
      | exact trivial
      | (refine Br.mk (fun hb => ?_) (fun hb => ?_) <;> (first | (exfalso; revert hb; decide) | ((try simp only [BL] at hb) <;> (try simp only [DL] at hb) <;> conv => whnf)))
      | (refine And.intro ?_ ?_; (focus (first | exact id | exact rfl | exact trivial | (intro hg; first | exact hg | exact rfl | (simp; done) | (simp at hg ⊢; assumption)) | omega | decide | exact is2_c _ _ _ | exact is1_c _ _ | exact isS_c _ _ | exact isB_c _ _ | exact Nat.le_refl _ | assumption | exact mulLe (by decide) (by omega) | exact mulLe2 (by decide) (by omega) (by omega) | (intros; simp only [BL] at *; omega) | (intros; (try simp only [BL] at *); (try simp only [DL] at *); omega) | (intros; simp only [BL] at *; rw [wr_id (by omega) (by omega)]; omega) | (intro h1 h2; exact Bool.and_eq_true_iff.2 ⟨h1, h2⟩) | exact fun _ => ⟨rfl, fun _ _ _ _ => rfl, rfl, fun _ _ _ _ => rfl, by omega, by omega⟩ | (intros; simp_all; done))); conv => whnf)
      | (refine Or.inr (And.intro rfl ?_); first | (refine congrArg intV ?_) | (refine congrArg boolV ?_) | (refine tupII ?_ ?_) | (refine tupIII ?_ ?_ ?_) | (refine tupU ?_ ?_ ?_ ?_ ?_) | exact rfl))
    · rw [hve]
      rw [if_neg (by omega), if_neg (by omega), if_neg (by omega), if_neg (by omega), if_pos hb]
  · have q := g5' (.inr hb)
    have h56 : c.kd K = 5 ∨ c.kd K = 6 := .inr hb
    refine And.intro ⟨rfl, fun _ _ _ _ => rfl, rfl, fun _ _ _ _ => rfl, by omega, by omega⟩ ?_
    conv => whnf
    repeat' (first
      | (refine NilG.mk fun bn hbn hbx => ?_; conv => whnf)
      | (refine Both.mk ?_ ?_ <;> conv => whnf)
      | ((first | (refine MkG.box 1 rfl rfl rfl (by decide) ?_) | (refine MkG.box 2 rfl rfl rfl (by decide) ?_) | (refine MkG.box 3 rfl rfl rfl (by decide) ?_) | (refine MkG.row ?_)); conv => whnf)
      | exact trivial
      | (refine Br.mk (fun hb => ?_) (fun hb => ?_) <;> (first | (exfalso; revert hb; decide) | ((try simp only [BL] at hb) <;> (try simp only [DL] at hb) <;> conv => whnf)))
      | (refine And.intro ?_ ?_; (focus (first | exact id | exact rfl | exact trivial | (intro hg; first | exact hg | exact rfl | (simp; done) | (simp at hg ⊢; assumption)) | omega | decide | exact is2_c _ _ _ | exact is1_c _ _ | exact isS_c _ _ | exact isB_c _ _ | exact Nat.le_refl _ | assumption | exact mulLe (by decide) (by omega) | exact mulLe2 (by decide) (by omega) (by omega) | (intros; simp only [BL] at *; omega) | (intros; (try simp only [BL] at *); (try simp only [DL] at *); omega) | (intros; simp only [BL] at *; rw [wr_id (by omega) (by omega)]; omega) | (intro h1 h2; exact Bool.and_eq_true_iff.2 ⟨h1, h2⟩) | exact fun _ => ⟨rfl, fun _ _ _ _ => rfl, rfl, fun _ _ _ _ => rfl, by omega, by omega⟩ | (intros; simp_all; done))); conv => whnf)
      | (refine Or.inr (And.intro rfl ?_); first | (refine congrArg intV ?_) | (refine congrArg boolV ?_) | (refine tupII ?_ ?_) | (refine tupIII ?_ ?_ ?_) | (refine tupU ?_ ?_ ?_ ?_ ?_) | exact rfl))
    · rw [hve]
      rw [if_neg (by omega), if_neg (by omega), if_neg (by omega), if_neg (by omega), if_neg (by omega), if_pos hb]
  · rw [hve, if_neg (by omega), if_neg (by omega), if_neg (by omega), if_neg (by omega), if_neg (by omega), if_neg (by omega)]
theorem rfHolds (c : Cnd) (s : Sts) (hc : gdC c) (hn : c.n ≤ 40) (hu : unq s) (hs : s.n ≤ 32) (k : Int) (h0 : 0 ≤ k) (hk : k < c.n) : Fn1 Try.prog 113 [cV c, intV k, stV s] (boolV (hoV s c k.toNat)) := by
  have ky : ∀ (d : Nat) (K : Nat), K < d → K < c.n → Fn1 Try.prog 113 [cV c, intV K, stV s] (boolV (hoV s c K)) := fun d => by
    induction d with
    | zero => exact fun K h => by omega
    | succ d ih =>
      intro K h1 h2
      refine rfHolds0 c s hc hn hu hs K h2 fun k q1 q2 => ?_
      have := ih k.toNat (by omega) (by omega)
      rwa [show ((k.toNat : Nat) : Int) = k by omega] at this
  have := ky (k.toNat + 1) k.toNat (by omega) (by omega)
  rwa [show ((k.toNat : Nat) : Int) = k by omega] at this
end Go.Proofs.Ytemfikdogdadnaa
