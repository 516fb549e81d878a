/-
  Orders: the search's walk.
-/
import Derived.Test.YtemfikdogdadnaaOrB
namespace Go.Proofs.Ytemfikdogdadnaa
open Go.RowKit

/-- an own row in a slot is looked at as a view of the whole row -/
def ovUp (S : AS) (t i sz n : Nat) : AS := ⟨(t, .ov i sz 0 n) :: S.fr, S.obs⟩
theorem Rel.ovUp {w0 : Env} {w : World} {I0 I : Nat → Prop} {S : AS} {σ : Asg} {tm : Array Value} (h : Rel w0 I0 S σ I tm w) {t i e sz n : Nat} {sc : Bool} {f : Nat → Nat → L} (ht : fget S.fr t = .own i) (ho : S.obs[i]? = some (.row e sz n sc f)) : Rel w0 I0 (ovUp S t i sz n) σ I tm w := by
  refine ⟨h.same0, h.st, fun t' => ?_, h.i1, h.i2, h.sz⟩
  have hf := h.fr t
  simp only [Go.Proofs.Ytemfikdogdadnaa.ovUp, fget]
  by_cases hh : t = t'
  · subst hh
    rw [if_pos rfl]
    rw [ht] at hf
    simp only [Den] at hf
    have hr : RowRel σ I w i e sz n f := (h.st.obj i _ ho).1
    obtain ⟨A, cap, q1, q2, q3⟩ := hr.len
    rw [hf.2.1]
    refine ⟨hf.1, A, cap, q1, q2, q3, fun hn => ?_⟩
    obtain ⟨g, rfl⟩ := hr.room q1 hn
    exact ⟨g, n, cap, q1, by rw [Nat.zero_mul], by omega, by omega⟩
  · rw [if_neg hh]; exact h.fr t'
theorem LoopG.ov {P : Program} {N : Nat} {c : Code} {S : AS} {K : Ex → AS → Prop} (t i : Nat) {e sz n : Nat} {sc : Bool} {f : Nat → Nat → L} (ht : fget S.fr t = .own i) (ho : S.obs[i]? = some (.row e sz n sc f)) (h : LoopG P N c (ovUp S t i sz n) K) : LoopG P N c S K :=
  ⟨fun w0 I0 σ I a w hd hN hr => h.sem w0 I0 _ I a w hd hN (hr.ovUp ht ho)⟩
def gamOr : Gam := fun f => match f with
  | 44 => some (sS1 (fun s => s.n ≤ 8) fun s => intV (codN s.cl s.n))
  | 41 => some (sHas fun p n x => boolV (hasB p n x))
  | 94 => some (sHas fun p n x => intV (fidx (sameN p x) n))
  | _ => gamI5 f
theorem gamOr_ok : GOk Try.prog gamOr := fun f g h => by
  unfold gamOr at h
  split at h
  · injection h with h; subst h; exact sS1_ok orCode
  · injection h with h; subst h; exact sHas_ok alHas
  · injection h with h; subst h; exact sHas_ok alIdx
  · exact gamI5_ok _ _ h
abbrev rQ (X : OrX) (R : List Nat) : OB := .row 34 1 R.length false fun k _ => .sl 2 X.n (cSt (stC X.n X.nm (R.getD k 0)))
theorem apQ {X : OrX} {R : List Nat} {q : Nat} : ∀ a, a < R.length + 1 → ∀ b, b < 1 → (if a < R.length then L.sl 2 X.n (cSt (stC X.n X.nm (R.getD a 0))) else (([L.sl 2 X.n (cSt (stC X.n X.nm q))] : List L)[(a - R.length) * 1 + b]?).getD (.v undef)) = L.sl 2 X.n (cSt (stC X.n X.nm ((R ++ [q]).getD a 0))) := fun a ha b hb => by
  obtain rfl : b = 0 := by omega
  by_cases h : a < R.length
  · rw [if_pos h, List.getD, List.getD, List.getElem?_append_left h]
  · obtain rfl : a = R.length := by omega
    rw [if_neg h, Nat.sub_self, List.getD, List.getElem?_append_right (Nat.le_refl _), Nat.sub_self]
    rfl
theorem ovQ {X : OrX} {R : List Nat} {lo q : Nat} : ∀ a, a < R.length - lo + 1 → ∀ b, b < 1 → (if a < R.length - lo then L.sl 2 X.n (cSt (stC X.n X.nm (R.getD (lo + a) 0))) else (([L.sl 2 X.n (cSt (stC X.n X.nm q))] : List L)[(a - (R.length - lo)) * 1 + b]?).getD (.v undef)) = L.sl 2 X.n (cSt (stC X.n X.nm ((R.drop lo ++ [q]).getD a 0))) := fun a ha b hb => by
  obtain rfl : b = 0 := by omega
  by_cases h : a < R.length - lo
  · rw [if_pos h, List.getD, List.getD, List.getElem?_append_left (by rw [List.length_drop]; exact h), List.getElem?_drop]
  · obtain rfl : a = R.length - lo := by omega
    rw [if_neg h, Nat.sub_self, List.getD, List.getElem?_append_right (by rw [List.length_drop]; exact Nat.le_refl _), List.length_drop, Nat.sub_self]
    rfl
structure Bq where
  R : List Nat
  lo : Nat
  D : List Nat
  h : Nat
  b : Nat → Int
  P : Nat → List Nat
def BqOk (X : OrX) (c0 k i : Nat) (y : Bq) : Prop := y.lo ≤ y.R.length ∧ y.R.length ≤ y.D.length ∧ y.R.drop y.lo = y.D.drop (y.h + k) ∧ Bf X.e X.n c0 y.D y.b y.P y.h i ∧ y.h + k ≤ y.D.length
theorem xorC {X : OrX} {c i : Nat} (h8 : X.n ≤ 8) (hc : c < 2 ^ X.n) (hi : i < X.n) : xorI .i64 (codN (stOf X.n (cSt (stC X.n X.nm c))).cl X.n : Int) (shlI .i64 1 (i : Int)) = ((c ^^^ 2 ^ i : Nat) : Int) := by
  have e : codN (stOf X.n (cSt (stC X.n X.nm c))).cl X.n = c := codN_bits hc
  rw [e]
  have := pow_le8 h8
  exact xor8 i (by omega) c (by omega)
set_option maxRecDepth 100000 in
theorem arr256 : e112.zero.cells.toList = List.replicate 256 e3.zero ∧ e3.zero.oneCell' = true := ⟨by kernel_rfl, by kernel_rfl⟩
def wkK (X : OrX) (c0 : Nat) (obs : List OB) (r : AV) : Prop := obs = [] ∧ ∃ b P, Wkd X.e X.n c0 b P ∧ r = .av 256 fun k => iL (b k)
set_option maxRecDepth 100000 in
set_option maxHeartbeats 4000000 in
theorem orWalk (X : OrX) (c0 : Nat) (hX : X.ok) (hc0 : c0 < 2 ^ X.n) : Fn Try.prog 43 [rlV X.r, stV (stC X.n X.nm c0), .c (.sl 1 X.hN (cS X.H))] (wkK X c0) := by
  refine fn_of_wpx (O := lex) tab_ok gamOr_ok mixed Try.func43 (by kernel_rfl) rfl rfl rfl (by simp [Try.ntmps43]) (by kernel_rfl) ?_
  have hX9 := hX
  obtain ⟨hr, hnm, hHn, h8, hr0, hs0⟩ := hX9
  have h256 := pow_le8 h8
  conv => whnf
  repeat' (first
    | (refine NilG.mk fun bn hbn hbx => ?_; conv => whnf)
    | (refine Both.mk ?_ ?_ <;> conv => whnf)
    | ((first | (refine MkG.box 1 rfl rfl rfl (by decide) ?_) | (refine MkG.box 2 rfl rfl rfl (by decide) ?_) | (refine MkG.box 3 rfl rfl rfl (by decide) ?_) | (refine MkG.row ?_)); conv => whnf)
    | exact trivial
    | (refine Br.mk (fun hb => ?_) (fun hb => ?_) <;> (first | (exfalso; revert hb; decide) | ((try simp only [BL] at hb) <;> (try simp only [DL] at hb) <;> (first | (exfalso; omega) | (conv => whnf)))))
    | (refine And.intro ?_ ?_; (focus (first | exact id | exact rfl | exact trivial | (intro hg; first | exact hg | exact rfl | (simp; done) | (simp at hg ⊢; assumption)) | omega | decide | exact is2_c _ _ _ | exact is1_c _ _ | exact isS_c _ _ | exact isB_c _ _ | exact Nat.le_refl _ | assumption | exact mulLe (by decide) (by omega) | exact mulLe2 (by decide) (by omega) (by omega) | (intros; simp only [BL] at *; omega) | (intros; (try simp only [BL] at *); (try simp only [DL] at *); omega) | (intros; simp only [BL] at *; rw [wr_id (by omega) (by omega)]; omega) | (intro h1 h2; exact Bool.and_eq_true_iff.2 ⟨h1, h2⟩) | exact arr256 | (intros; simp_all; done))); conv => whnf)
    | (refine Or.inr (And.intro rfl ?_); first | (refine congrArg intV ?_) | (refine congrArg boolV ?_) | (refine tupII ?_ ?_) | (refine tupIII ?_ ?_ ?_) | (refine tupU ?_ ?_ ?_ ?_ ?_) | exact rfl))
  refine sem_loop tab_ok gamOr_ok mixed (by kernel_rfl) (O := lex) (fun j : Nat => ⟨[(0, rlV X.r), (1, stV (stC X.n X.nm c0)), (2, .c (.sl 1 X.hN (cS X.H))), (6, .lp 0 0), (7, .lp 1 0), (17, intV j)], [.arr 1 256 false (fun _ _ => iL 0), .arr 1 256 false (fun k _ => if k < j then iL (-2) else iL 0)]⟩) (fun j => j ≤ 256) (fun j => 256 - j) ⟨0, [?_, ?_], Nat.zero_le _, ?_⟩ fun j hj => ?_
  rotate_left 2
  · refine Sub.of ?_ ?_ ?_
    repeat' (first | (refine And.intro ?_ ?_) | exact trivial | exact fun _ _ _ => hsc _ _ | (exact congrArg intV (by first | with_reducible rfl | with_reducible assumption)) | exact (rfl : AV.idsLt _ _ = true) | exact (rfl : _ = AV.ren _ (.own _)) | exact (rfl : _ = AV.ren _ (.fn _ _)) | exact (rfl : _ = AV.ren _ (.gh _)) | (exact congrArg intV (by assumption)) | (refine congrArg intV ((wr_id (by omega) (by omega)).trans (by omega))) | exact rfl | (simp only [Int.toNat_natCast, Int.toNat_zero, Nat.sub_zero, Nat.zero_add]; first | exact rfl | done) | exact all0 | exact fun h => Bool.noConfusion h | exact fun _ _ _ _ => rfl | omega)
  have ec : codN (stOf X.n (cSt (stC X.n X.nm c0))).cl X.n = c0 := codN_bits hc0
  by_cases hj9 : j < 256
  · conv => whnf
    repeat' (first
      | (refine NilG.mk fun bn hbn hbx => ?_; conv => whnf)
      | (refine Both.mk ?_ ?_ <;> conv => whnf)
      | ((first | (refine MkG.box 1 rfl rfl rfl (by decide) ?_) | (refine MkG.box 2 rfl rfl rfl (by decide) ?_) | (refine MkG.box 3 rfl rfl rfl (by decide) ?_) | (refine MkG.row ?_)); conv => whnf)
      | exact trivial
      | (refine Br.mk (fun hb => ?_) (fun hb => ?_) <;> (first | (exfalso; revert hb; decide) | ((try simp only [BL] at hb) <;> (try simp only [DL] at hb) <;> (first | (exfalso; omega) | (conv => whnf)))))
      | (refine And.intro ?_ ?_; (focus (first | exact id | exact rfl | exact trivial | (intro hg; first | exact hg | exact rfl | (simp; done) | (simp at hg ⊢; assumption)) | omega | decide | exact is2_c _ _ _ | exact is1_c _ _ | exact isS_c _ _ | exact isB_c _ _ | exact Nat.le_refl _ | assumption | exact mulLe (by decide) (by omega) | exact mulLe2 (by decide) (by omega) (by omega) | (intros; simp only [BL] at *; omega) | (intros; (try simp only [BL] at *); (try simp only [DL] at *); omega) | (intros; simp only [BL] at *; rw [wr_id (by omega) (by omega)]; omega) | (intro h1 h2; exact Bool.and_eq_true_iff.2 ⟨h1, h2⟩) | exact ⟨rfl, by omega, by decide⟩ | (intros; simp_all; done))); conv => whnf)
      | (refine Or.inr (And.intro rfl ?_); first | (refine congrArg intV ?_) | (refine congrArg boolV ?_) | (refine tupII ?_ ?_) | (refine tupIII ?_ ?_ ?_) | (refine tupU ?_ ?_ ?_ ?_ ?_) | exact rfl))
    have e17 : IntKind.i64.wrap ((j : Int) + 1) = ((j + 1 : Nat) : Int) := (wr_id (by omega) (by omega)).trans (by omega)
    refine ⟨j + 1, [0, 1], (by omega : j + 1 ≤ 256), by omega, ?_⟩
    refine Sub.of ?_ ?_ ?_
    repeat' (first | (refine And.intro ?_ ?_) | exact trivial | exact fun _ _ _ => hsc _ _ | (exact congrArg intV (by first | with_reducible rfl | with_reducible assumption)) | exact (rfl : AV.idsLt _ _ = true) | exact (rfl : _ = AV.ren _ (.own _)) | exact (rfl : _ = AV.ren _ (.fn _ _)) | exact (rfl : _ = AV.ren _ (.gh _)) | (exact congrArg intV (by assumption)) | (refine congrArg intV ((wr_id (by omega) (by omega)).trans (by omega))) | exact rfl | (simp only [Int.toNat_natCast, Int.toNat_zero, Nat.sub_zero, Nat.zero_add]; first | exact rfl | done) | exact all0 | exact fun h => Bool.noConfusion h | exact fun _ _ _ _ => rfl | omega)
    intro a ha b hb9
    have hb9 : b < 1 := hb9
    match b, hb9 with
    | 0, _ =>
      show _ = if a < j + 1 then iL (-2) else iL 0
      by_cases e : a = j
      · refine (if_pos e).trans ?_
        rw [if_pos (show a < j + 1 by omega)]
        rfl
      · refine (if_neg e).trans ?_
        by_cases h : a < j
        · rw [if_pos (show a < j + 1 by omega)]; exact if_pos h
        · rw [if_neg (show ¬ a < j + 1 by omega)]; exact if_neg h
  obtain rfl : j = 256 := by omega
  have ecI : 0 ≤ ((codN (stOf X.n (cSt (stC X.n X.nm c0))).cl X.n : Nat) : Int) ∧ ((codN (stOf X.n (cSt (stC X.n X.nm c0))).cl X.n : Nat) : Int) < (256 : Nat) := by rw [ec]; omega
  have ecN : ((codN (stOf X.n (cSt (stC X.n X.nm c0))).cl X.n : Nat) : Int).toNat < 256 := by rw [ec]; omega
  conv => whnf
  repeat' (first
    | (refine NilG.mk fun bn hbn hbx => ?_; conv => whnf)
    | (refine Both.mk ?_ ?_ <;> conv => whnf)
    | ((first | (refine MkG.box 1 rfl rfl rfl (by decide) ?_) | (refine MkG.box 2 rfl rfl rfl (by decide) ?_) | (refine MkG.box 3 rfl rfl rfl (by decide) ?_) | (refine MkG.row ?_)); conv => whnf)
    | exact trivial
    | (refine Br.mk (fun hb => ?_) (fun hb => ?_) <;> (first | (exfalso; revert hb; decide) | ((try simp only [BL] at hb) <;> (try simp only [DL] at hb) <;> (first | (exfalso; omega) | (conv => whnf)))))
    | (refine And.intro ?_ ?_; (focus (first | exact id | exact rfl | exact trivial | (intro hg; first | exact hg | exact rfl | (simp; done) | (simp at hg ⊢; assumption)) | omega | decide | exact is2_c _ _ _ | exact is1_c _ _ | exact isS_c _ _ | exact isB_c _ _ | exact Nat.le_refl _ | assumption | exact mulLe (by decide) (by omega) | exact mulLe2 (by decide) (by omega) (by omega) | (intros; simp only [BL] at *; omega) | (intros; (try simp only [BL] at *); (try simp only [DL] at *); omega) | (intros; simp only [BL] at *; rw [wr_id (by omega) (by omega)]; omega) | (intro h1 h2; exact Bool.and_eq_true_iff.2 ⟨h1, h2⟩) | first | exact ⟨isSt_c _ _, h8⟩ | exact ecI | exact ecN | exact ⟨rfl, ecN, by decide⟩ | (intros; simp_all; done))); conv => whnf)
    | (refine Or.inr (And.intro rfl ?_); first | (refine congrArg intV ?_) | (refine congrArg boolV ?_) | (refine tupII ?_ ?_) | (refine tupIII ?_ ?_ ?_) | (refine tupU ?_ ?_ ?_ ?_ ?_) | exact rfl))
  refine LoopG.ov 9 2 rfl rfl ?_
  refine sem_loop tab_ok gamOr_ok mixed (by kernel_rfl) (O := lex) (fun y : Bq => ⟨[(0, rlV X.r), (2, .c (.sl 1 X.hN (cS X.H))), (6, .lp 0 0), (7, .lp 1 0), (9, .ov 2 1 y.lo (y.R.length - y.lo))], [.arr 1 256 false (fun _ _ => iL 0), .arr 1 256 false (fun k _ => iL (y.b k)), rQ X y.R]⟩) (fun y => BqOk X c0 0 0 y) (fun y => 256 - y.h) ⟨⟨[c0], 0, [c0], 0, fun k => if k = c0 then -1 else -2, fun _ => []⟩, [0, 1, 2], ⟨Nat.zero_le _, Nat.le_refl _, rfl, Bf.start h8 hc0, Nat.zero_le _⟩, ?_⟩ fun y hy => ?_
  · refine Sub.of ?_ ?_ ?_
    repeat' (first | (refine And.intro ?_ ?_) | exact trivial | exact fun _ _ _ => hsc _ _ | (exact congrArg intV (by first | with_reducible rfl | with_reducible assumption)) | exact (rfl : AV.idsLt _ _ = true) | exact (rfl : _ = AV.ren _ (.own _)) | exact (rfl : _ = AV.ren _ (.fn _ _)) | exact (rfl : _ = AV.ren _ (.gh _)) | (exact congrArg intV (by assumption)) | (refine congrArg intV ((wr_id (by omega) (by omega)).trans (by omega))) | exact rfl | (simp only [Int.toNat_natCast, Int.toNat_zero, Nat.sub_zero, Nat.zero_add]; first | exact rfl | done) | exact all0 | exact fun h => Bool.noConfusion h | exact fun _ _ _ _ => rfl | omega)
    · intro a ha b hb9
      obtain rfl : b = 0 := by omega
      refine Eq.trans ?_ (show (if a = c0 then iL (-1) else iL (-2)) = iL (if a = c0 then -1 else -2) by split <;> rfl)
      have ecT : ((codN (stOf X.n (cSt (stC X.n X.nm c0))).cl X.n : Nat) : Int).toNat = c0 := by rw [ec]; rfl
      by_cases e : a = c0
      · rw [if_pos e]
        refine (if_pos (e.trans ecT.symm)).trans ?_
        rfl
      · rw [if_neg e]
        refine (if_neg fun h => e (h.trans ecT)).trans ?_
        exact if_pos (by omega)
    · intro a ha b hb9
      have hb9 : b < 1 := hb9
      obtain rfl : a = 0 := by omega
      obtain rfl : b = 0 := by omega
      rfl
  obtain ⟨R, lo, D, h, by_, Pl⟩ := y
  obtain ⟨y1, y2, y3, y4, y5⟩ := hy
  dsimp only at y1 y2 y3 y4 y5 ⊢
  rw [Nat.add_zero] at y3
  have hDl := nodup_len y4.nd y4.lt
  have hlen3 := congrArg List.length y3
  rw [List.length_drop, List.length_drop] at hlen3
  by_cases hlt : lo < R.length
  rotate_left
  · conv => whnf
    repeat' (first
      | (refine NilG.mk fun bn hbn hbx => ?_; conv => whnf)
      | (refine Both.mk ?_ ?_ <;> conv => whnf)
      | ((first | (refine MkG.box 1 rfl rfl rfl (by decide) ?_) | (refine MkG.box 2 rfl rfl rfl (by decide) ?_) | (refine MkG.box 3 rfl rfl rfl (by decide) ?_) | (refine MkG.row ?_)); conv => whnf)
      | exact trivial
      | (refine Br.mk (fun hb => ?_) (fun hb => ?_) <;> (first | (exfalso; revert hb; decide) | ((try simp only [BL] at hb) <;> (try simp only [DL] at hb) <;> (first | (exfalso; omega) | (conv => whnf)))))
      | (refine And.intro ?_ ?_; (focus (first | exact id | exact rfl | exact trivial | (intro hg; first | exact hg | exact rfl | (simp; done) | (simp at hg ⊢; assumption)) | omega | decide | exact is2_c _ _ _ | exact is1_c _ _ | exact isS_c _ _ | exact isB_c _ _ | exact Nat.le_refl _ | assumption | exact mulLe (by decide) (by omega) | exact mulLe2 (by decide) (by omega) (by omega) | (intros; simp only [BL] at *; omega) | (intros; (try simp only [BL] at *); (try simp only [DL] at *); omega) | (intros; simp only [BL] at *; rw [wr_id (by omega) (by omega)]; omega) | (intro h1 h2; exact Bool.and_eq_true_iff.2 ⟨h1, h2⟩) | (intros; simp_all; done))); conv => whnf)
      | (refine Or.inr (And.intro rfl ?_); first | (refine congrArg intV ?_) | (refine congrArg boolV ?_) | (refine tupII ?_ ?_) | (refine tupIII ?_ ?_ ?_) | (refine tupU ?_ ?_ ?_ ?_ ?_) | exact rfl))
    obtain rfl : h = D.length := by omega
    exact .inr ⟨rfl, by_, Pl, y4.fin h8, rfl⟩
  have hhD : h < D.length := by omega
  obtain ⟨s, hs⟩ : ∃ s, s = R.getD (lo + Int.toNat 0) 0 := ⟨_, rfl⟩
  have hdrop : R.getD lo 0 :: R.drop (lo + 1) = D[h] :: D.drop (h + 1) := by
    rw [← List.drop_eq_getElem_cons hhD, ← y3, List.drop_eq_getElem_cons hlt]
    congr 1
    simp [List.getD, List.getElem?_eq_getElem hlt]
  have hsD : D[h]? = some s := by
    rw [List.getElem?_eq_getElem hhD, hs]
    exact congrArg some (List.cons.inj hdrop).1.symm
  conv => whnf
  repeat' (first
    | (refine NilG.mk fun bn hbn hbx => ?_; conv => whnf)
    | (refine Both.mk ?_ ?_ <;> conv => whnf)
    | ((first | (refine MkG.box 1 rfl rfl rfl (by decide) ?_) | (refine MkG.box 2 rfl rfl rfl (by decide) ?_) | (refine MkG.box 3 rfl rfl rfl (by decide) ?_) | (refine MkG.row ?_)); conv => whnf)
    | exact trivial
    | (refine Br.mk (fun hb => ?_) (fun hb => ?_) <;> (first | (exfalso; revert hb; decide) | ((try simp only [BL] at hb) <;> (try simp only [DL] at hb) <;> (first | (exfalso; omega) | (conv => whnf)))))
    | (refine And.intro ?_ ?_; (focus (first | exact id | exact rfl | exact trivial | (intro hg; first | exact hg | exact rfl | (simp; done) | (simp at hg ⊢; assumption)) | omega | decide | exact is2_c _ _ _ | exact is1_c _ _ | exact isS_c _ _ | exact isB_c _ _ | exact Nat.le_refl _ | assumption | exact mulLe (by decide) (by omega) | exact mulLe2 (by decide) (by omega) (by omega) | (intros; simp only [BL] at *; omega) | (intros; (try simp only [BL] at *); (try simp only [DL] at *); omega) | (intros; simp only [BL] at *; rw [wr_id (by omega) (by omega)]; omega) | (intro h1 h2; exact Bool.and_eq_true_iff.2 ⟨h1, h2⟩) | exact ⟨rfl, by omega, by decide⟩ | (intros; simp_all; done))); conv => whnf)
    | (refine Or.inr (And.intro rfl ?_); first | (refine congrArg intV ?_) | (refine congrArg boolV ?_) | (refine tupII ?_ ?_) | (refine tupIII ?_ ?_ ?_) | (refine tupU ?_ ?_ ?_ ?_ ?_) | exact rfl))
  refine sem_loop tab_ok gamOr_ok mixed (by kernel_rfl) (O := lex) (fun z : Bq × Nat => ⟨[(0, rlV X.r), (2, .c (.sl 1 X.hN (cS X.H))), (6, .lp 0 0), (7, .lp 1 0), (9, .ov 2 1 z.1.lo (z.1.R.length - z.1.lo)), (10, stV (stC X.n X.nm (R.getD (lo + Int.toNat 0) 0))), (36, stV (stC X.n X.nm (R.getD (lo + Int.toNat 0) 0))), (37, intV X.n), (38, intV z.2)], [.arr 1 256 false (fun _ _ => iL 0), .arr 1 256 false (fun k _ => iL (z.1.b k)), rQ X z.1.R]⟩) (fun z => BqOk X c0 1 z.2 z.1 ∧ z.2 ≤ X.n ∧ z.1.h = h ∧ z.1.D[h]? = some s) (fun z => X.n - z.2) ⟨(⟨R, lo + 1, D, h, by_, Pl⟩, 0), [?_, ?_, ?_], ⟨⟨hlt, y2, (List.cons.inj hdrop).2, y4, hhD⟩, Nat.zero_le _, rfl, hsD⟩, ?_⟩ fun z hz => ?_
  rotate_left 3
  · refine Sub.of ?_ ?_ ?_
    repeat' (first | (refine And.intro ?_ ?_) | exact trivial | exact fun _ _ _ => hsc _ _ | (exact congrArg intV (by first | with_reducible rfl | with_reducible assumption)) | exact (rfl : AV.idsLt _ _ = true) | exact (rfl : _ = AV.ren _ (.own _)) | exact (rfl : _ = AV.ren _ (.fn _ _)) | exact (rfl : _ = AV.ren _ (.gh _)) | (exact congrArg intV (by assumption)) | (refine congrArg intV ((wr_id (by omega) (by omega)).trans (by omega))) | exact rfl | (simp only [Int.toNat_natCast, Int.toNat_zero, Nat.sub_zero, Nat.zero_add]; first | exact rfl | done) | exact all0 | exact fun h => Bool.noConfusion h | exact fun _ _ _ _ => rfl | omega)
  obtain ⟨⟨R', lo', D', h', b', P'⟩, i⟩ := z
  obtain ⟨⟨z1, z2, z3, z4, z5⟩, zi, zh, zs⟩ := hz
  dsimp only at z1 z2 z3 z4 z5 zi zh zs ⊢
  subst zh
  rw [← hs]
  clear y1 y2 y3 y4 y5 hDl hlen3 hlt hhD hdrop hsD hs
  have hDl := nodup_len z4.nd z4.lt
  have hlen3 := congrArg List.length z3
  rw [List.length_drop, List.length_drop] at hlen3
  have hsm := List.mem_of_getElem? zs
  have hs2 := z4.lt s hsm
  by_cases hin : i < X.n
  rotate_left
  · obtain rfl : i = X.n := by omega
    conv => whnf
    repeat' (first
      | (refine NilG.mk fun bn hbn hbx => ?_; conv => whnf)
      | (refine Both.mk ?_ ?_ <;> conv => whnf)
      | ((first | (refine MkG.box 1 rfl rfl rfl (by decide) ?_) | (refine MkG.box 2 rfl rfl rfl (by decide) ?_) | (refine MkG.box 3 rfl rfl rfl (by decide) ?_) | (refine MkG.row ?_)); conv => whnf)
      | exact trivial
      | (refine Br.mk (fun hb => ?_) (fun hb => ?_) <;> (first | (exfalso; revert hb; decide) | ((try simp only [BL] at hb) <;> (try simp only [DL] at hb) <;> (first | (exfalso; omega) | (conv => whnf)))))
      | (refine And.intro ?_ ?_; (focus (first | exact id | exact rfl | exact trivial | (intro hg; first | exact hg | exact rfl | (simp; done) | (simp at hg ⊢; assumption)) | omega | decide | exact is2_c _ _ _ | exact is1_c _ _ | exact isS_c _ _ | exact isB_c _ _ | exact Nat.le_refl _ | assumption | exact mulLe (by decide) (by omega) | exact mulLe2 (by decide) (by omega) (by omega) | (intros; simp only [BL] at *; omega) | (intros; (try simp only [BL] at *); (try simp only [DL] at *); omega) | (intros; simp only [BL] at *; rw [wr_id (by omega) (by omega)]; omega) | (intro h1 h2; exact Bool.and_eq_true_iff.2 ⟨h1, h2⟩) | (intros; simp_all; done))); conv => whnf)
      | (refine Or.inr (And.intro rfl ?_); first | (refine congrArg intV ?_) | (refine congrArg boolV ?_) | (refine tupII ?_ ?_) | (refine tupIII ?_ ?_ ?_) | (refine tupU ?_ ?_ ?_ ?_ ?_) | exact rfl))
    have hinv : BqOk X c0 0 0 ⟨R', lo', D', h' + 1, b', P'⟩ := ⟨z1, z2, z3, z4.next, z5⟩
    refine ⟨⟨R', lo', D', h' + 1, b', P'⟩, [0, 1, 2], hinv, (by show 256 - (h' + 1) < 256 - h'; omega), ?_⟩
    refine Sub.of ?_ ?_ ?_
    repeat' (first | (refine And.intro ?_ ?_) | exact trivial | exact fun _ _ _ => hsc _ _ | (exact congrArg intV (by first | with_reducible rfl | with_reducible assumption)) | exact (rfl : AV.idsLt _ _ = true) | exact (rfl : _ = AV.ren _ (.own _)) | exact (rfl : _ = AV.ren _ (.fn _ _)) | exact (rfl : _ = AV.ren _ (.gh _)) | (exact congrArg intV (by assumption)) | (refine congrArg intV ((wr_id (by omega) (by omega)).trans (by omega))) | exact rfl | (simp only [Int.toNat_natCast, Int.toNat_zero, Nat.sub_zero, Nat.zero_add]; first | exact rfl | done) | exact all0 | exact fun h => Bool.noConfusion h | exact fun _ _ _ _ => rfl | omega)
  have exI : 0 ≤ xorI .i64 (codN (stOf X.n (cSt (stC X.n X.nm s))).cl X.n : Int) (shlI .i64 1 (i : Int)) ∧ xorI .i64 (codN (stOf X.n (cSt (stC X.n X.nm s))).cl X.n : Int) (shlI .i64 1 (i : Int)) < (256 : Nat) := by
    rw [xorC h8 hs2 hin]
    have := xor_lt hs2 hin
    omega
  have exT : (xorI .i64 (codN (stOf X.n (cSt (stC X.n X.nm s))).cl X.n : Int) (shlI .i64 1 (i : Int))).toNat = s ^^^ 2 ^ i := by rw [xorC h8 hs2 hin]; rfl
  have exL : (xorI .i64 (codN (stOf X.n (cSt (stC X.n X.nm s))).cl X.n : Int) (shlI .i64 1 (i : Int))).toNat < 256 := by
    rw [exT]
    have := xor_lt hs2 hin
    omega
  have hlt9 := xor_lt hs2 hin
  have e38 : IntKind.i64.wrap ((i : Int) + 1) = ((i + 1 : Nat) : Int) := (wr_id (by omega) (by omega)).trans (by omega)
  conv => whnf
  repeat' (first
    | (refine NilG.mk fun bn hbn hbx => ?_; conv => whnf)
    | (refine Both.mk ?_ ?_ <;> conv => whnf)
    | ((first | (refine MkG.box 1 rfl rfl rfl (by decide) ?_) | (refine MkG.box 2 rfl rfl rfl (by decide) ?_) | (refine MkG.box 3 rfl rfl rfl (by decide) ?_) | (refine MkG.row ?_)); conv => whnf)
    | exact trivial
    | (refine Br.mk (fun hb => ?_) (fun hb => ?_) <;> (first | (exfalso; revert hb; decide) | ((try simp only [BL] at hb) <;> (try simp only [DL] at hb) <;> (first | (exfalso; omega) | (conv => whnf)))))
    | (refine And.intro ?_ ?_; (focus (first | exact id | exact rfl | exact trivial | (intro hg; first | exact hg | exact rfl | (simp; done) | (simp at hg ⊢; assumption)) | omega | decide | exact is2_c _ _ _ | exact is1_c _ _ | exact isS_c _ _ | exact isB_c _ _ | exact Nat.le_refl _ | assumption | exact mulLe (by decide) (by omega) | exact mulLe2 (by decide) (by omega) (by omega) | (intros; simp only [BL] at *; omega) | (intros; (try simp only [BL] at *); (try simp only [DL] at *); omega) | (intros; simp only [BL] at *; rw [wr_id (by omega) (by omega)]; omega) | (intro h1 h2; exact Bool.and_eq_true_iff.2 ⟨h1, h2⟩) | first | exact ⟨rfl, by omega, by decide⟩ | exact ⟨isS_c _ _, hHn⟩ | exact fun _ => ⟨isSt_c _ _, h8⟩ | exact fun _ => exI | exact fun _ => ⟨rfl, exL, by decide⟩ | (intros; simp_all; done))); conv => whnf)
    | (refine Or.inr (And.intro rfl ?_); first | (refine congrArg intV ?_) | (refine congrArg boolV ?_) | (refine tupII ?_ ?_) | (refine tupIII ?_ ?_ ?_) | (refine tupU ?_ ?_ ?_ ?_ ?_) | exact rfl))
  · have hb1 : hasB X.H X.hN (X.nm i) = true ∨ ¬ b' (xorI .i64 (codN (stOf X.n (cSt (stC X.n X.nm s))).cl X.n : Int) (shlI .i64 1 (i : Int))).toNat = -2 := hb
    have hS : Bf X.e X.n c0 D' b' P' h' (i + 1) := by
      rcases hb1 with h | h
      · exact z4.skip zs (by unfold OrX.e; rw [h]; rfl)
      · rw [exT] at h
        exact z4.seen h8 zs (Decidable.byContradiction fun hm => h ((z4.no _ (by omega)).2 hm))
    have hinv : BqOk X c0 1 (i + 1) ⟨R', lo', D', h', b', P'⟩ ∧ i + 1 ≤ X.n ∧ h' = h' ∧ D'[h']? = some s := ⟨⟨z1, z2, z3, hS, z5⟩, by omega, rfl, zs⟩
    refine ⟨(⟨R', lo', D', h', b', P'⟩, i + 1), [0, 1, 2], hinv, (by show X.n - (i + 1) < X.n - i; omega), ?_⟩
    refine Sub.of ?_ ?_ ?_
    repeat' (first | (refine And.intro ?_ ?_) | exact trivial | exact fun _ _ _ => hsc _ _ | (exact congrArg intV (by first | with_reducible rfl | with_reducible assumption)) | exact (rfl : AV.idsLt _ _ = true) | exact (rfl : _ = AV.ren _ (.own _)) | exact (rfl : _ = AV.ren _ (.fn _ _)) | exact (rfl : _ = AV.ren _ (.gh _)) | (exact congrArg intV (by assumption)) | (refine congrArg intV ((wr_id (by omega) (by omega)).trans (by omega))) | exact rfl | (simp only [Int.toNat_natCast, Int.toNat_zero, Nat.sub_zero, Nat.zero_add]; first | exact rfl | done) | exact all0 | exact fun h => Bool.noConfusion h | exact fun _ _ _ _ => rfl | omega)
  have hb1 : hasB X.H X.hN (X.nm i) = false ∧ b' (xorI .i64 (codN (stOf X.n (cSt (stC X.n X.nm s))).cl X.n : Int) (shlI .i64 1 (i : Int))).toNat = -2 := hb
  rw [exT] at hb1
  have hno : ¬ s ^^^ 2 ^ i ∈ D' := (z4.no _ (by omega)).1 hb1.2
  refine CallG.mk (Fn.mono (orPerm X hX s i hin) ?_)
  rintro obs r ⟨rfl, rfl⟩
  conv => whnf
  repeat' (first
    | (refine NilG.mk fun bn hbn hbx => ?_; conv => whnf)
    | (refine Both.mk ?_ ?_ <;> conv => whnf)
    | ((first | (refine MkG.box 1 rfl rfl rfl (by decide) ?_) | (refine MkG.box 2 rfl rfl rfl (by decide) ?_) | (refine MkG.box 3 rfl rfl rfl (by decide) ?_) | (refine MkG.row ?_)); conv => whnf)
    | exact trivial
    | (refine Br.mk (fun hb => ?_) (fun hb => ?_) <;> (first | (exfalso; revert hb; decide) | ((try simp only [BL] at hb) <;> (try simp only [DL] at hb) <;> (first | (exfalso; omega) | (conv => whnf)))))
    | (refine And.intro ?_ ?_; (focus (first | exact id | exact rfl | exact trivial | (intro hg; first | exact hg | exact rfl | (simp; done) | (simp at hg ⊢; assumption)) | omega | decide | exact is2_c _ _ _ | exact is1_c _ _ | exact isS_c _ _ | exact isB_c _ _ | exact Nat.le_refl _ | assumption | exact mulLe (by decide) (by omega) | exact mulLe2 (by decide) (by omega) (by omega) | (intros; simp only [BL] at *; omega) | (intros; (try simp only [BL] at *); (try simp only [DL] at *); omega) | (intros; simp only [BL] at *; rw [wr_id (by omega) (by omega)]; omega) | (intro h1 h2; exact Bool.and_eq_true_iff.2 ⟨h1, h2⟩) | (intros; simp_all; done))); conv => whnf)
    | (refine Or.inr (And.intro rfl ?_); first | (refine congrArg intV ?_) | (refine congrArg boolV ?_) | (refine tupII ?_ ?_) | (refine tupIII ?_ ?_ ?_) | (refine tupU ?_ ?_ ?_ ?_ ?_) | exact rfl))
  · have he : X.e s i = true := by
      unfold OrX.e
      rw [hb1.1]
      show (!false && _) = true
      rw [Bool.not_false, Bool.true_and, beq_iff_eq]
      exact hb
    have hS := z4.add h8 zs hin he hno
    obtain ⟨q, hq⟩ : ∃ q, q = s ^^^ 2 ^ i := ⟨_, rfl⟩
    refine CallG.mk (Fn.mono (orSet X.n X.nm s i h8 hnm hs0 hin) ?_)
    rintro obs r ⟨rfl, rfl⟩
    rw [← hq] at hS hlt9 ⊢
    have ed : codN (stOf X.n (cSt (stC X.n X.nm q))).cl X.n = q := codN_bits hlt9
    have edI : 0 ≤ ((codN (stOf X.n (cSt (stC X.n X.nm q))).cl X.n : Nat) : Int) ∧ ((codN (stOf X.n (cSt (stC X.n X.nm q))).cl X.n : Nat) : Int) < (256 : Nat) := by rw [ed]; omega
    have edN : ((codN (stOf X.n (cSt (stC X.n X.nm q))).cl X.n : Nat) : Int).toNat < 256 := by rw [ed]; omega
    have edT : ((codN (stOf X.n (cSt (stC X.n X.nm q))).cl X.n : Nat) : Int).toNat = q := by rw [ed]; rfl
    have hb24 : e34.bytes = 24 := rfl
    have harr : ∀ a, a < 256 → ∀ b, b < 1 → (if a = ((codN (stOf X.n (cSt (stC X.n X.nm q))).cl X.n : Nat) : Int).toNat then (if 0 ≤ b ∧ b < 0 + 1 then (([iL (i : Int)] : List L)[b - 0]?).getD .un else iL (b' a)) else iL (b' a)) = iL (set1 b' q (i : Int) a) := fun a _ b hb => by
      obtain rfl : b = 0 := by omega
      unfold set1
      by_cases e : a = q
      · rw [if_pos (e.trans edT.symm), if_pos e]
        rfl
      · rw [if_neg (fun h => e (h.trans edT)), if_neg e]
    conv => whnf
    repeat' (first
      | (refine NilG.mk fun bn hbn hbx => ?_; conv => whnf)
      | (refine Both.mk ?_ ?_ <;> conv => whnf)
      | ((first | (refine MkG.box 1 rfl rfl rfl (by decide) ?_) | (refine MkG.box 2 rfl rfl rfl (by decide) ?_) | (refine MkG.box 3 rfl rfl rfl (by decide) ?_) | (refine MkG.row ?_)); conv => whnf)
      | exact trivial
      | (refine Br.mk (fun hb => ?_) (fun hb => ?_) <;> (first | (exfalso; revert hb; decide) | ((try simp only [BL] at hb) <;> (try simp only [DL] at hb) <;> (first | (exfalso; omega) | (conv => whnf)))))
      | (refine And.intro ?_ ?_; (focus (first | exact id | exact rfl | exact trivial | (intro hg; first | exact hg | exact rfl | (simp; done) | (simp at hg ⊢; assumption)) | omega | decide | exact is2_c _ _ _ | exact is1_c _ _ | exact isS_c _ _ | exact isB_c _ _ | exact Nat.le_refl _ | assumption | exact mulLe (by decide) (by omega) | exact mulLe2 (by decide) (by omega) (by omega) | (intros; simp only [BL] at *; omega) | (intros; (try simp only [BL] at *); (try simp only [DL] at *); omega) | (intros; simp only [BL] at *; rw [wr_id (by omega) (by omega)]; omega) | (intro h1 h2; exact Bool.and_eq_true_iff.2 ⟨h1, h2⟩) | first | exact ⟨rfl, by omega, by decide⟩ | exact ⟨isSt_c _ _, h8⟩ | exact edI | exact edN | exact ⟨rfl, edN, by decide⟩ | (rw [hb24]; omega) | (intros; simp_all; done))); conv => whnf)
      | (refine Or.inr (And.intro rfl ?_); first | (refine congrArg intV ?_) | (refine congrArg boolV ?_) | (refine tupII ?_ ?_) | (refine tupIII ?_ ?_ ?_) | (refine tupU ?_ ?_ ?_ ?_ ?_) | exact rfl))
    · obtain ⟨R2, hR2⟩ : ∃ R2, R2 = R'.drop lo' ++ [q] := ⟨_, rfl⟩
      have el : R2.length = R'.length - lo' + 1 := by rw [hR2]; simp
      have hinv : BqOk X c0 1 (i + 1) ⟨R2, 0, D' ++ [q], h', set1 b' q (i : Int), set1 P' q (P' s ++ [i])⟩ ∧ i + 1 ≤ X.n ∧ h' = h' ∧ (D' ++ [q])[h']? = some s := ⟨⟨Nat.zero_le _, by rw [el, List.length_append]; show R'.length - lo' + 1 ≤ D'.length + 1; omega, by show R2 = (D' ++ [q]).drop (h' + 1); rw [hR2, z3, List.drop_append_of_le_length z5], hS, by rw [List.length_append]; show h' + 1 ≤ D'.length + 1; omega⟩, by omega, rfl, by rw [List.getElem?_append_left (by omega)]; exact zs⟩
      have e8 : AV.ov 5 1 0 (R'.length - lo' + 1) = AV.ov 5 1 0 (R2.length - 0) := by rw [el]; rfl
      refine ⟨(⟨R2, 0, D' ++ [q], h', set1 b' q (i : Int), set1 P' q (P' s ++ [i])⟩, i + 1), [0, 1, 5], hinv, (by show X.n - (i + 1) < X.n - i; omega), ?_⟩
      refine Sub.of ?_ ?_ ?_
      repeat' (first | (refine And.intro ?_ ?_) | exact trivial | exact fun _ _ _ => hsc _ _ | (exact congrArg intV (by first | with_reducible rfl | with_reducible assumption)) | exact (rfl : AV.idsLt _ _ = true) | exact (rfl : _ = AV.ren _ (.own _)) | exact (rfl : _ = AV.ren _ (.fn _ _)) | exact (rfl : _ = AV.ren _ (.gh _)) | (exact congrArg intV (by assumption)) | (refine congrArg intV ((wr_id (by omega) (by omega)).trans (by omega))) | exact rfl | (simp only [Int.toNat_natCast, Int.toNat_zero, Nat.sub_zero, Nat.zero_add]; first | exact rfl | done) | exact all0 | exact fun h => Bool.noConfusion h | exact fun _ _ _ _ => rfl | omega)
      · exact e8
      · exact harr
      · exact el.symm
      · rw [hR2]; exact ovQ
    · obtain ⟨R2, hR2⟩ : ∃ R2, R2 = R' ++ [q] := ⟨_, rfl⟩
      have el : R2.length = R'.length + 1 := by rw [hR2]; simp
      have hinv : BqOk X c0 1 (i + 1) ⟨R2, lo', D' ++ [q], h', set1 b' q (i : Int), set1 P' q (P' s ++ [i])⟩ ∧ i + 1 ≤ X.n ∧ h' = h' ∧ (D' ++ [q])[h']? = some s := ⟨⟨by show lo' ≤ R2.length; omega, by rw [el, List.length_append]; show R'.length + 1 ≤ D'.length + 1; omega, by show R2.drop lo' = (D' ++ [q]).drop (h' + 1); rw [hR2, List.drop_append_of_le_length z1, z3, List.drop_append_of_le_length z5], hS, by rw [List.length_append]; show h' + 1 ≤ D'.length + 1; omega⟩, by omega, rfl, by rw [List.getElem?_append_left (by omega)]; exact zs⟩
      have e8 : AV.ov 5 1 lo' (R'.length - lo' + 1) = AV.ov 5 1 lo' (R2.length - lo') := by rw [el, show R'.length - lo' + 1 = R'.length + 1 - lo' by omega]
      refine ⟨(⟨R2, lo', D' ++ [q], h', set1 b' q (i : Int), set1 P' q (P' s ++ [i])⟩, i + 1), [0, 1, 5], hinv, (by show X.n - (i + 1) < X.n - i; omega), ?_⟩
      refine Sub.of ?_ ?_ ?_
      repeat' (first | (refine And.intro ?_ ?_) | exact trivial | exact fun _ _ _ => hsc _ _ | (exact congrArg intV (by first | with_reducible rfl | with_reducible assumption)) | exact (rfl : AV.idsLt _ _ = true) | exact (rfl : _ = AV.ren _ (.own _)) | exact (rfl : _ = AV.ren _ (.fn _ _)) | exact (rfl : _ = AV.ren _ (.gh _)) | (exact congrArg intV (by assumption)) | (refine congrArg intV ((wr_id (by omega) (by omega)).trans (by omega))) | exact rfl | (simp only [Int.toNat_natCast, Int.toNat_zero, Nat.sub_zero, Nat.zero_add]; first | exact rfl | done) | exact all0 | exact fun h => Bool.noConfusion h | exact fun _ _ _ _ => rfl | omega)
      · exact e8
      · exact harr
      · exact el.symm
      · rw [hR2]; exact apQ
  · have hS : Bf X.e X.n c0 D' b' P' h' (i + 1) := z4.skip zs (by
      unfold OrX.e
      rw [hb1.1]
      show (!false && _) = false
      rw [Bool.not_false, Bool.true_and, beq_eq_false_iff_ne]
      exact hb)
    have hinv : BqOk X c0 1 (i + 1) ⟨R', lo', D', h', b', P'⟩ ∧ i + 1 ≤ X.n ∧ h' = h' ∧ D'[h']? = some s := ⟨⟨z1, z2, z3, hS, z5⟩, by omega, rfl, zs⟩
    refine ⟨(⟨R', lo', D', h', b', P'⟩, i + 1), [0, 1, 2], hinv, (by show X.n - (i + 1) < X.n - i; omega), ?_⟩
    refine Sub.of ?_ ?_ ?_
    repeat' (first | (refine And.intro ?_ ?_) | exact trivial | exact fun _ _ _ => hsc _ _ | (exact congrArg intV (by first | with_reducible rfl | with_reducible assumption)) | exact (rfl : AV.idsLt _ _ = true) | exact (rfl : _ = AV.ren _ (.own _)) | exact (rfl : _ = AV.ren _ (.fn _ _)) | exact (rfl : _ = AV.ren _ (.gh _)) | (exact congrArg intV (by assumption)) | (refine congrArg intV ((wr_id (by omega) (by omega)).trans (by omega))) | exact rfl | (simp only [Int.toNat_natCast, Int.toNat_zero, Nat.sub_zero, Nat.zero_add]; first | exact rfl | done) | exact all0 | exact fun h => Bool.noConfusion h | exact fun _ _ _ _ => rfl | omega)
end Go.Proofs.Ytemfikdogdadnaa
