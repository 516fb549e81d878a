/-
  telemetry: List has as many messages as there are points.
-/
import Derived.Test.YtkkkldhilofgmaaTelS
namespace Go.Proofs.Ytkkkldhilofgmaa
open Go.RowKit Go.Sort Go.Proofs

def cQ (t : Tl) : Nat → Nat → L := fun k j => match j with
  | 0 => sL (t.nm k)
  | 1 => iL (t.nu k)
  | 2 => iL (t.ti k)
  | _ => iL (t.va k)
theorem scQ (t : Tl) (k j : Nat) : (cQ t k j).scal = true := by
  unfold cQ
  split <;> rfl
def nmD (t : Tl) (i : Nat) : ByteArray := if i < t.n then t.nm i else ⟨#[]⟩
def zQ (j : Nat) : Value := if j = 0 then .string ⟨#[]⟩ else .int .i64 0
def inD (t : Tl) (f : Nat → Int) (i : Nat) : Int := if i < t.n then f i else 0
theorem tel_enc (t : Tl) (i : Nat) : sfEnc 4 t.n zQ (cQ t) i = [.string (nmD t i), .int .i64 (inD t t.nu i), .int .i64 (inD t t.ti i), .int .i64 (inD t t.va i)] := by
  unfold sfEnc nmD inD
  by_cases h : i < t.n
  · simp [h, List.range_succ, cQ, cellV, iL, sL]
  · simp [h, List.range_succ, zQ]
def cfT (t : Tl) (x y : Nat) : Int := cB2 (nmD t x).data.toList (nmD t y).data.toList
theorem telSwo (t : Tl) : SWO (ltOf (cfT t)) where
  irrefl x := by simp [ltOf, cfT, cb_self]
  trans x y z h1 h2 := decide_eq_true (cb_trans _ _ _ (of_decide_eq_true h1) (of_decide_eq_true h2))
  ntrans x y z h1 h2 := decide_eq_false (cb_ntrans _ _ _ (of_decide_eq_false h1) (of_decide_eq_false h2))
/-- how many names are less -/
def lessN (t : Tl) (x z : Nat) : Int := if cfT t z x < 0 then 1 else 0
def keyT (t : Tl) (x : Nat) : Int := S (lessN t x) t.n
theorem keyT_iff (t : Tl) (x y : Nat) (hx : x < t.n) : cfT t x y < 0 ↔ keyT t x < keyT t y := by
  constructor
  · intro h
    refine S_lt (fun z _ => ?_) ⟨x, hx, ?_⟩
    · unfold lessN
      by_cases h1 : cfT t z x < 0
      · rw [if_pos h1, if_pos (show cfT t z y < 0 from cb_trans _ _ _ h1 h)]
        exact Int.le_refl _
      · rw [if_neg h1]
        split <;> decide
    · unfold lessN
      rw [if_neg (by unfold cfT; rw [cb_self]; decide), if_pos h]
      decide
  · intro h
    refine Decidable.byContradiction fun h2 => ?_
    have : keyT t y ≤ keyT t x := by
      refine S_leS fun z _ => ?_
      unfold lessN
      by_cases h1 : cfT t z y < 0
      · rw [if_pos h1]
        by_cases h3 : cfT t z x < 0
        · rw [if_pos h3]; exact Int.le_refl _
        · exact absurd h1 (cb_ntrans _ _ _ h3 h2)
      · rw [if_neg h1]
        split <;> decide
    omega
theorem sortTel (t : Tl) (hn : t.n ≤ 1000) : FnM Try.prog 95 [.row 101 4 t.n true (cQ t)] [.own 0, .fn 96 []] (fun obs r => ∃ q : Nat → Nat, obs = [.row 101 4 t.n true fun i j => cQ t (q i) j] ∧ r = .tup []) := by
  refine FnM.mono (sf_bridge (z := zQ) (key := keyT t) (cf := cfT t) ⟨_, Try.func95, by decide, rfl⟩ (scQ t) (fun x y hx hy => keyT_iff t x y hx) (fun P cap fv w => AnyF.slices_SortFunc_none sfTel P cap fv w) fun b cap w hH hbw h1 => ?_) (fun obs r ⟨q, _, h1, h2⟩ => ⟨q, h1, h2⟩)
  refine AnyQ.slices_SortFunc sfTel 4 Try.isAgg101 Try.sizeOf101 (sfEnc 4 t.n zQ (cQ t)) (sfEnc_len _ _ _ _) (fun x v hv => ?_) (cfT t) (telSwo t) 96 #[] b 0 cap (Array.range t.n) w (enters_of Try.func96 (by kernel_rfl) rfl) (fun m os dk hs x y => ?_) hH hbw (by simp; omega)
  · rw [tel_enc] at hv
    simp at hv
    rcases hv with rfl | rfl | rfl | rfl <;> rfl
  · rw [tel_enc, tel_enc]
    exact telCmp _ _ _ _ _ _ _ _ _
theorem tlList (age : Int) (t : Tl) (hn : t.n ≤ 24) : Fn Try.prog 58 [.xp 2 (ptF age t)] (fun obs r => obs = [] ∧ ∃ g, r = .c (.sl 4 t.n g)) := by
  refine fn_of_wpx (O := lex) tab_ok gamN1_ok mixed Try.func58 (by kernel_rfl) rfl rfl rfl (by simp [Try.ntmps58]) (by kernel_rfl) ?_
  have hsc := scQ t
  conv => whnf
  repeat' (first
    | (refine NilG.mk fun bn hbn hbx => ?_; conv => whnf)
    | (refine Both.mk ?_ ?_ <;> conv => whnf)
    | exact trivial
    | (refine Br.mk (fun hb => ?_) (fun hb => ?_) <;> (first | (exfalso; revert hb; decide) | ((try simp only [BL] at hb) <;> (try simp only [DL] at hb) <;> conv => whnf)))
    | (refine And.intro ?_ ?_; (focus (first | exact id | exact rfl | exact trivial | (intro hg; first | exact hg | exact rfl | (simp; done) | (simp at hg ⊢; assumption)) | omega | decide | exact is2_c _ _ _ | exact is1_c _ _ | exact isS_c _ _ | exact isB_c _ _ | exact Nat.le_refl _ | assumption | exact mulLe (by decide) (by omega) | exact mulLe2 (by decide) (by omega) (by omega) | (intros; simp only [BL] at *; omega) | (intros; (try simp only [BL] at *); (try simp only [DL] at *); omega) | (intros; simp only [BL] at *; rw [wr_id (by omega) (by omega)]; omega) | (intro h1 h2; exact Bool.and_eq_true_iff.2 ⟨h1, h2⟩) | (intros; simp_all; done))); conv => whnf)
    | (refine Or.inr (And.intro rfl ?_); first | (refine congrArg intV ?_) | (refine congrArg boolV ?_) | (refine tupII ?_ ?_) | (refine tupIII ?_ ?_ ?_) | (refine tupU ?_ ?_ ?_ ?_ ?_) | exact rfl))
  refine LoopG.nil 3 101 4 rfl ?_
  refine sem_loop tab_ok gamN1_ok mixed (by kernel_rfl) (O := lex) (fun i : Nat => ⟨[(3, .own 0), (9, .c (.sl 5 t.n (cP t))), (10, intV t.n), (11, intV i)], [.row 101 4 i true (cQ t)]⟩) (fun i => i ≤ t.n) (fun i => t.n - i) ⟨0, [?_], Nat.zero_le _, ?_⟩ fun i hi => ?_
  rotate_left 1
  · refine Sub.of ?_ ?_ ?_
    repeat' (first | (refine And.intro ?_ ?_) | exact trivial | exact fun _ _ _ => hsc _ _ | (exact congrArg intV (by first | with_reducible rfl | with_reducible assumption)) | exact (rfl : AV.idsLt _ _ = true) | exact (rfl : _ = AV.ren _ (.own _)) | exact (rfl : _ = AV.ren _ (.fn _ _)) | exact (rfl : _ = AV.ren _ (.gh _)) | (exact congrArg intV (by assumption)) | (refine congrArg intV ((wr_id (by omega) (by omega)).trans (by omega))) | exact rfl | (simp only [Int.toNat_natCast, Int.toNat_zero, Nat.sub_zero, Nat.zero_add]; first | exact rfl | done) | exact all0 | exact fun h => Bool.noConfusion h | exact fun _ _ _ _ => rfl | omega)
  conv => whnf
  repeat' (first
    | (refine NilG.mk fun bn hbn hbx => ?_; conv => whnf)
    | (refine Both.mk ?_ ?_ <;> conv => whnf)
    | exact trivial
    | (refine Br.mk (fun hb => ?_) (fun hb => ?_) <;> (first | (exfalso; revert hb; decide) | ((try simp only [BL] at hb) <;> (try simp only [DL] at hb) <;> conv => whnf)))
    | (refine And.intro ?_ ?_; (focus (first | exact id | exact rfl | exact trivial | (intro hg; first | exact hg | exact rfl | (simp; done) | (simp at hg ⊢; assumption)) | omega | decide | exact is2_c _ _ _ | exact is1_c _ _ | exact isS_c _ _ | exact isB_c _ _ | exact Nat.le_refl _ | assumption | exact mulLe (by decide) (by omega) | exact mulLe2 (by decide) (by omega) (by omega) | (intros; simp only [BL] at *; omega) | (intros; (try simp only [BL] at *); (try simp only [DL] at *); omega) | (intros; simp only [BL] at *; rw [wr_id (by omega) (by omega)]; omega) | (intro h1 h2; exact Bool.and_eq_true_iff.2 ⟨h1, h2⟩) | (intros; simp_all; done))); conv => whnf)
    | (refine Or.inr (And.intro rfl ?_); first | (refine congrArg intV ?_) | (refine congrArg boolV ?_) | (refine tupII ?_ ?_) | (refine tupIII ?_ ?_ ?_) | (refine tupU ?_ ?_ ?_ ?_ ?_) | exact rfl))
  · refine ⟨i + 1, [?_], by omega, by omega, ?_⟩
    rotate_left 1
    refine Sub.of ?_ ?_ ?_
    repeat' (first | (refine And.intro ?_ ?_) | exact trivial | exact fun _ _ _ => hsc _ _ | (exact congrArg intV (by first | with_reducible rfl | with_reducible assumption)) | exact (rfl : AV.idsLt _ _ = true) | exact (rfl : _ = AV.ren _ (.own _)) | exact (rfl : _ = AV.ren _ (.fn _ _)) | exact (rfl : _ = AV.ren _ (.gh _)) | (exact congrArg intV (by assumption)) | (refine congrArg intV ((wr_id (by omega) (by omega)).trans (by omega))) | exact rfl | (simp only [Int.toNat_natCast, Int.toNat_zero, Nat.sub_zero, Nat.zero_add]; first | exact rfl | done) | exact all0 | exact fun h => Bool.noConfusion h | exact fun _ _ _ _ => rfl | omega)
    intro a ha b hb9
    have hb9 : b < 4 := hb9
    by_cases e : a < i
    · exact if_pos e
    · obtain rfl : a = i := by omega
      refine (if_neg e).trans ?_
      rw [Nat.sub_self]
      match b, hb9 with
      | 0, _ => rfl
      | 1, _ => rfl
      | 2, _ => rfl
      | 3, _ => rfl
  · obtain hin : i = t.n := by omega
    rw [hin]
    refine CallG.wr [0] rfl (FnM.mono (sortTel t (by omega)) ?_)
    rintro obs r ⟨q, rfl, rfl⟩
    conv => whnf
    repeat' (first
      | (refine NilG.mk fun bn hbn hbx => ?_; conv => whnf)
      | (refine Both.mk ?_ ?_ <;> conv => whnf)
      | exact trivial
      | (refine Br.mk (fun hb => ?_) (fun hb => ?_) <;> (first | (exfalso; revert hb; decide) | ((try simp only [BL] at hb) <;> (try simp only [DL] at hb) <;> conv => whnf)))
      | (refine And.intro ?_ ?_; (focus (first | exact id | exact rfl | exact trivial | (intro hg; first | exact hg | exact rfl | (simp; done) | (simp at hg ⊢; assumption)) | omega | decide | exact is2_c _ _ _ | exact is1_c _ _ | exact isS_c _ _ | exact isB_c _ _ | exact Nat.le_refl _ | assumption | exact mulLe (by decide) (by omega) | exact mulLe2 (by decide) (by omega) (by omega) | (intros; simp only [BL] at *; omega) | (intros; (try simp only [BL] at *); (try simp only [DL] at *); omega) | (intros; simp only [BL] at *; rw [wr_id (by omega) (by omega)]; omega) | (intro h1 h2; exact Bool.and_eq_true_iff.2 ⟨h1, h2⟩) | (intros; simp_all; done))); conv => whnf)
      | (refine Or.inr (And.intro rfl ?_); first | (refine congrArg intV ?_) | (refine congrArg boolV ?_) | (refine tupII ?_ ?_) | (refine tupIII ?_ ?_ ?_) | (refine tupU ?_ ?_ ?_ ?_ ?_) | exact rfl))
    exact .inr ⟨rfl, _, rfl⟩
end Go.Proofs.Ytkkkldhilofgmaa
