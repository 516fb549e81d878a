/-
  commit: the places that follow a place: the walk.
-/
import Derived.Test.YtemfikdogdadnaaCbR
namespace Go.Proofs.Ytemfikdogdadnaa
open Go.RowKit

def ordFo : Ord := fun id => if id = 24 then some (.go 0 (.go 2 (.go 3 (.go 4 (.go 5 (.go 8 (.fork (.alt 1 (.fork (.alt 6 (.fork (.alt 7 (.go 9 (.go 10 (.go 11 (.go 12 (.go 13 (.go 14 ((.done)))))))) (.alt 9 (.go 7 (.go 10 (.go 11 (.go 12 (.go 13 (.go 14 ((.done)))))))) (.none)))) (.alt 9 (.go 6 (.go 7 (.go 10 (.go 11 (.go 12 (.go 13 (.go 14 ((.done))))))))) (.none)))) (.alt 6 (.fork (.alt 1 (.fork (.alt 7 (.go 9 (.go 10 (.go 11 (.go 12 (.go 13 (.go 14 ((.done)))))))) (.alt 9 (.go 7 (.go 10 (.go 11 (.go 12 (.go 13 (.go 14 ((.done)))))))) (.none)))) (.alt 7 (.fork (.alt 1 (.go 9 (.go 10 (.go 11 (.go 12 (.go 13 (.go 14 ((.done)))))))) (.alt 9 (.fork (.alt 1 (.go 10 (.go 11 (.go 12 (.go 13 (.go 14 ((.done))))))) (.alt 10 (.go 1 (.go 11 (.go 12 (.go 13 (.go 14 ((.done))))))) (.none)))) (.none)))) (.alt 9 (.fork (.alt 1 (.go 7 (.go 10 (.go 11 (.go 12 (.go 13 (.go 14 ((.done)))))))) (.alt 7 (.fork (.alt 1 (.go 10 (.go 11 (.go 12 (.go 13 (.go 14 ((.done))))))) (.alt 10 (.go 1 (.go 11 (.go 12 (.go 13 (.go 14 ((.done))))))) (.none)))) (.none)))) (.none))))) (.alt 9 (.go 6 (.fork (.alt 1 (.go 7 (.go 10 (.go 11 (.go 12 (.go 13 (.go 14 ((.done)))))))) (.alt 7 (.fork (.alt 1 (.go 10 (.go 11 (.go 12 (.go 13 (.go 14 ((.done))))))) (.alt 10 (.go 1 (.go 11 (.go 12 (.go 13 (.go 14 ((.done))))))) (.none)))) (.none))))) (.none))))))))))) else none
theorem two3 {n : Nat} (hn : n ≤ 3) : shlI .i64 1 (n : Int) = ((2 ^ n : Nat) : Int) ∧ 2 ^ n ≤ 8 := by
  match n, hn with
  | 0, _ => exact ⟨by decide +kernel, by decide⟩
  | 1, _ => exact ⟨by decide +kernel, by decide⟩
  | 2, _ => exact ⟨by decide +kernel, by decide⟩
  | 3, _ => exact ⟨by decide +kernel, by decide⟩
section
variable {o : Nat → Bool} {q : Plc} {i : Nat}
theorem nxt_on1 : (nxt o q (i + 1)).on i = o i := if_pos (Nat.lt_succ_self i)
theorem nxt_on0 : (nxt o q i).on i = q.on i := if_neg (Nat.lt_irrefl i)
theorem nxt_si1 : (nxt o q (i + 1)).si i = if o i = q.on i then min (q.si i + 1) 200000 else 1 := if_pos (Nat.lt_succ_self i)
theorem nxt_si0 : (nxt o q i).si i = q.si i := if_neg (Nat.lt_irrefl i)
theorem rowBit {n : Nat} {X : Bool} (h : X = o i) : ∀ a, a < n → ∀ b, b < 1 → (if a = (i : Int).toNat then (if 0 ≤ b ∧ b < 0 + [L.v (.bool X)].length then ([L.v (.bool X)][b - 0]?).getD .un else bL (if a < i then o a else false)) else bL (if a < i then o a else false)) = bL (if a < i + 1 then o a else false) := fun a _ b hb => by
  obtain rfl : b = 0 := by omega
  by_cases e : a = i
  · subst e
    rw [if_pos (show a = (a : Int).toNat from rfl), if_pos (Nat.lt_succ_self a), ← h]
    rfl
  · rw [if_neg (show ¬ a = (i : Int).toNat from e)]
    by_cases e2 : a < i
    · rw [if_pos e2, if_pos (show a < i + 1 by omega)]
    · rw [if_neg e2, if_neg (show ¬ a < i + 1 by omega)]
theorem apW {ws : List Way} {w' : Way} : ∀ a, a < ws.length + 1 → ∀ b, b < 8 → (if a < ws.length then cWy ws a b else ((wyL w')[(a - ws.length) * 8 + b]?).getD (.v undef)) = cWy (ws ++ [w']) a b := fun a ha b hb => by
  show _ = (wyL ((ws ++ [w']).getD a way0)).getD b .un
  by_cases h : a < ws.length
  · rw [if_pos h]
    show (wyL (ws.getD a way0)).getD b .un = _
    simp only [List.getD_eq_getElem?_getD, List.getElem?_append_left h]
  · obtain rfl : a = ws.length := by omega
    rw [if_neg h, Nat.sub_self, Nat.zero_mul, Nat.zero_add]
    have : (ws ++ [w']).getD ws.length way0 = w' := by simp
    rw [this]
    match b, hb with
    | 0, _ => rfl
    | 1, _ => rfl
    | 2, _ => rfl
    | 3, _ => rfl
    | 4, _ => rfl
    | 5, _ => rfl
    | 6, _ => rfl
    | 7, _ => rfl
theorem bx0 {X : Bool} {Y : Int} (h1 : X = (nxt o q 1).on 0) (h2 : Y = (nxt o q 1).si 0) : [boolV X, intV Y, boolV ((nxt o q 0).on 1), intV ((nxt o q 0).si 1), boolV ((nxt o q 0).on 2), intV ((nxt o q 0).si 2)] = plA (nxt o q 1) := by
  subst h1 h2
  rfl
theorem bx1 {X : Bool} {Y : Int} (h1 : X = (nxt o q 2).on 1) (h2 : Y = (nxt o q 2).si 1) : [boolV ((nxt o q 1).on 0), intV ((nxt o q 1).si 0), boolV X, intV Y, boolV ((nxt o q 1).on 2), intV ((nxt o q 1).si 2)] = plA (nxt o q 2) := by
  subst h1 h2
  rfl
theorem bx2 {X : Bool} {Y : Int} (h1 : X = (nxt o q 3).on 2) (h2 : Y = (nxt o q 3).si 2) : [boolV ((nxt o q 2).on 0), intV ((nxt o q 2).si 0), boolV ((nxt o q 2).on 1), intV ((nxt o q 2).si 1), boolV X, intV Y] = plA (nxt o q 3) := by
  subst h1 h2
  rfl
theorem okW_s {u : Nat → CuR} : okW u o q (i + 1) = (okW u o q i && okU (u i) (o i) (q.on i) (q.si i)) := rfl
end
set_option maxHeartbeats 8000000 in
theorem cbFol (G : Cgx) (h : G.ok) (w : Way) (d : Int) (hd : 0 ≤ d ∧ d ≤ 1000000) (hw : w.ok) : Fn Try.prog 52 [.c (.sl 13 G.n (cCu G.u)), .agg (wyC w), intV d] (fun obs r => obs = [] ∧ r = .c (.sl 8 (fol G w d (2 ^ G.n)).length (cWy (fol G w d (2 ^ G.n))))) := by
  refine fn_of_wpx (O := ordFo) tab_ok gamN1_ok mixed Try.func52 (by kernel_rfl) rfl rfl rfl (by simp [Try.ntmps52]) (by kernel_rfl) ?_
  obtain ⟨p1, p2⟩ := two3 h.n3
  have hn3 := h.n3
  conv => whnf
  repeat' (first
    | (refine NilG.mk fun bn hbn hbx => ?_; conv => whnf)
    | (refine Both.mk ?_ ?_ <;> conv => whnf)
    | ((first | (refine MkG.box 1 rfl rfl rfl (by decide) ?_) | (refine MkG.box 2 rfl rfl rfl (by decide) ?_) | (refine MkG.box 3 rfl rfl rfl (by decide) ?_) | (refine MkG.row ?_)); conv => whnf)
    | exact trivial
    | (refine Br.mk (fun hb => ?_) (fun hb => ?_) <;> (first | (exfalso; revert hb; decide) | ((try simp only [BL] at hb) <;> (try simp only [DL] at hb) <;> (first | (exfalso; omega) | (conv => whnf)))))
    | (refine And.intro ?_ ?_; (focus (first | exact id | exact rfl | exact trivial | (intro hg; first | exact hg | exact rfl | (simp; done) | (simp at hg ⊢; assumption)) | omega | decide | exact is2_c _ _ _ | exact is1_c _ _ | exact isS_c _ _ | exact isB_c _ _ | exact Nat.le_refl _ | assumption | exact mulLe (by decide) (by omega) | exact mulLe2 (by decide) (by omega) (by omega) | (intros; simp only [BL] at *; omega) | (intros; (try simp only [BL] at *); (try simp only [DL] at *); omega) | (intros; simp only [BL] at *; rw [wr_id (by omega) (by omega)]; omega) | (intro h1 h2; exact Bool.and_eq_true_iff.2 ⟨h1, h2⟩) | (intros; simp_all; done))); conv => whnf)
    | (refine Or.inr (And.intro rfl ?_); first | (refine congrArg intV ?_) | (refine congrArg boolV ?_) | (refine tupII ?_ ?_) | (refine tupIII ?_ ?_ ?_) | (refine tupU ?_ ?_ ?_ ?_ ?_) | exact rfl))
  refine LoopG.nil 7 127 8 rfl ?_
  refine sem_loop tab_ok gamN1_ok mixed (by kernel_rfl) (O := ordFo) (fun b : Nat => ⟨[(0, .c (.sl 13 G.n (cCu G.u))), (2, intV d), (4, .lp 0 0), (7, .own 1), (21, intV ((2 ^ G.n : Nat) : Int)), (22, intV b)], [.box (wyC w), rWy (fol G w d b)]⟩) (fun b => b ≤ 2 ^ G.n) (fun b => 2 ^ G.n - b) ⟨0, [?_, ?_], Nat.zero_le _, ?_⟩ fun b hb9 => ?_
  rotate_left 2
  · refine Sub.of ?_ ?_ ?_
    repeat' (first | (refine And.intro ?_ ?_) | exact trivial | exact fun _ _ _ => hsc _ _ | (exact congrArg intV (by first | with_reducible rfl | with_reducible assumption)) | exact (rfl : AV.idsLt _ _ = true) | exact (rfl : _ = AV.ren _ (.own _)) | exact (rfl : _ = AV.ren _ (.fn _ _)) | exact (rfl : _ = AV.ren _ (.gh _)) | (exact congrArg intV (by assumption)) | (refine congrArg intV ((wr_id (by omega) (by omega)).trans (by omega))) | exact rfl | (simp only [Int.toNat_natCast, Int.toNat_zero, Nat.sub_zero, Nat.zero_add]; first | exact rfl | done) | exact all0 | exact fun h => Bool.noConfusion h | exact fun _ _ _ _ => rfl | omega)
  have hfl := fol_len G w d b
  by_cases hb : b < 2 ^ G.n
  rotate_left
  · obtain rfl : b = 2 ^ G.n := by omega
    conv => whnf
    repeat' (first
      | (refine NilG.mk fun bn hbn hbx => ?_; conv => whnf)
      | (refine Both.mk ?_ ?_ <;> conv => whnf)
      | ((first | (refine MkG.box 1 rfl rfl rfl (by decide) ?_) | (refine MkG.box 2 rfl rfl rfl (by decide) ?_) | (refine MkG.box 3 rfl rfl rfl (by decide) ?_) | (refine MkG.row ?_)); conv => whnf)
      | exact trivial
      | (refine Br.mk (fun hb => ?_) (fun hb => ?_) <;> (first | (exfalso; revert hb; decide) | ((try simp only [BL] at hb) <;> (try simp only [DL] at hb) <;> (first | (exfalso; omega) | (conv => whnf)))))
      | (refine And.intro ?_ ?_; (focus (first | exact id | exact rfl | exact trivial | (intro hg; first | exact hg | exact rfl | (simp; done) | (simp at hg ⊢; assumption)) | omega | decide | exact is2_c _ _ _ | exact is1_c _ _ | exact isS_c _ _ | exact isB_c _ _ | exact Nat.le_refl _ | assumption | exact mulLe (by decide) (by omega) | exact mulLe2 (by decide) (by omega) (by omega) | (intros; simp only [BL] at *; omega) | (intros; (try simp only [BL] at *); (try simp only [DL] at *); omega) | (intros; simp only [BL] at *; rw [wr_id (by omega) (by omega)]; omega) | (intro h1 h2; exact Bool.and_eq_true_iff.2 ⟨h1, h2⟩) | (intros; simp_all; done))); conv => whnf)
      | (refine Or.inr (And.intro rfl ?_); first | (refine congrArg intV ?_) | (refine congrArg boolV ?_) | (refine tupII ?_ ?_) | (refine tupIII ?_ ?_ ?_) | (refine tupU ?_ ?_ ?_ ?_ ?_) | exact rfl))
  obtain ⟨o, ho⟩ : ∃ o : Nat → Bool, o = fun k => b.testBit k := ⟨_, rfl⟩
  have hbit : ∀ i : Nat, i < 3 → (andI .i64 (shrI .i64 (b : Int) (i : Int)) 1 == 1) = o i := fun i hi => by rw [ho]; exact bitC i hi b (by omega)
  conv => whnf
  repeat' (first
    | (refine NilG.mk fun bn hbn hbx => ?_; conv => whnf)
    | (refine Both.mk ?_ ?_ <;> conv => whnf)
    | ((first | (refine MkG.box 1 rfl rfl rfl (by decide) ?_) | (refine MkG.box 2 rfl rfl rfl (by decide) ?_) | (refine MkG.box 3 rfl rfl rfl (by decide) ?_) | (refine MkG.row ?_)); conv => whnf)
    | exact trivial
    | (refine Br.mk (fun hb => ?_) (fun hb => ?_) <;> (first | (exfalso; revert hb; decide) | ((try simp only [BL] at hb) <;> (try simp only [DL] at hb) <;> (first | (exfalso; omega) | (conv => whnf)))))
    | (refine And.intro ?_ ?_; (focus (first | exact id | exact rfl | exact trivial | (intro hg; first | exact hg | exact rfl | (simp; done) | (simp at hg ⊢; assumption)) | omega | decide | exact is2_c _ _ _ | exact is1_c _ _ | exact isS_c _ _ | exact isB_c _ _ | exact Nat.le_refl _ | assumption | exact mulLe (by decide) (by omega) | exact mulLe2 (by decide) (by omega) (by omega) | (intros; simp only [BL] at *; omega) | (intros; (try simp only [BL] at *); (try simp only [DL] at *); omega) | (intros; simp only [BL] at *; rw [wr_id (by omega) (by omega)]; omega) | (intro h1 h2; exact Bool.and_eq_true_iff.2 ⟨h1, h2⟩) | (intros; simp_all; done))); conv => whnf)
    | (refine Or.inr (And.intro rfl ?_); first | (refine congrArg intV ?_) | (refine congrArg boolV ?_) | (refine tupII ?_ ?_) | (refine tupIII ?_ ?_ ?_) | (refine tupU ?_ ?_ ?_ ?_ ?_) | exact rfl))
  have e11 : w.c = w.c + stW G.u o w.q 0 := (Int.add_zero _).symm
  refine sem_loop tab_ok gamN1_ok mixed (by kernel_rfl) (O := ordFo) (fun i : Nat => ⟨[(0, .c (.sl 13 G.n (cCu G.u))), (2, intV d), (4, .lp 0 0), (7, .own 1), (8, intV b), (9, .own 2), (10, .lp 3 0), (11, intV (w.c + stW G.u o w.q i)), (12, boolV (okW G.u o w.q i)), (21, intV ((2 ^ G.n : Nat) : Int)), (22, intV b), (32, .c (.sl 13 G.n (cCu G.u))), (33, intV G.n), (34, intV i)], [.box (wyC w), rWy (fol G w d b), .row 4 1 G.n false (fun k _ => bL (if k < i then o k else false)), .box (plA (nxt o w.q i))]⟩) (fun i => i ≤ G.n) (fun i => G.n - i) ⟨0, [?_, ?_, ?_, ?_], Nat.zero_le _, ?_⟩ fun i hi => ?_
  rotate_left 4
  · refine Sub.of ?_ ?_ ?_
    repeat' (first | (refine And.intro ?_ ?_) | exact trivial | exact fun _ _ _ => hsc _ _ | (exact congrArg intV (by first | with_reducible rfl | with_reducible assumption)) | exact (rfl : AV.idsLt _ _ = true) | exact (rfl : _ = AV.ren _ (.own _)) | exact (rfl : _ = AV.ren _ (.fn _ _)) | exact (rfl : _ = AV.ren _ (.gh _)) | (exact congrArg intV (by assumption)) | (refine congrArg intV ((wr_id (by omega) (by omega)).trans (by omega))) | exact rfl | (simp only [Int.toNat_natCast, Int.toNat_zero, Nat.sub_zero, Nat.zero_add]; first | exact rfl | done) | exact all0 | exact fun h => Bool.noConfusion h | exact fun _ _ _ _ => rfl | omega)
    · intro a _ b' hb1
      have hb1 : b' < 1 := hb1
      obtain rfl : b' = 0 := by omega
      show bL false = bL (if a < 0 then o a else false)
      rw [if_neg (Nat.not_lt_zero a)]
  clear e11
  have hwc := hw.c
  have hwsi := hw.s
  have hsb := stW_b h o w.q
  by_cases hin : i < G.n
  rotate_left
  · obtain rfl : i = G.n := by omega
    have eo : fol G w d (b + 1) = if (okW G.u o w.q G.n && G.can o d) = true then fol G w d b ++ [nxW G w o d] else fol G w d b := by rw [ho]; rfl
    have hws := hsb G.n (Nat.le_refl _)
    have hcb := G.sC_b h o d
    conv => whnf
    repeat' (first
      | (refine NilG.mk fun bn hbn hbx => ?_; conv => whnf)
      | (refine Both.mk ?_ ?_ <;> conv => whnf)
      | ((first | (refine MkG.box 1 rfl rfl rfl (by decide) ?_) | (refine MkG.box 2 rfl rfl rfl (by decide) ?_) | (refine MkG.box 3 rfl rfl rfl (by decide) ?_) | (refine MkG.row ?_)); conv => whnf)
      | exact trivial
      | (refine Br.mk (fun hb => ?_) (fun hb => ?_) <;> (first | (exfalso; revert hb; decide) | ((try simp only [BL] at hb) <;> (try simp only [DL] at hb) <;> (first | (exfalso; omega) | (conv => whnf)))))
      | (refine And.intro ?_ ?_; (focus (first | exact id | exact rfl | exact trivial | (intro hg; first | exact hg | exact rfl | (simp; done) | (simp at hg ⊢; assumption)) | omega | decide | exact is2_c _ _ _ | exact is1_c _ _ | exact isS_c _ _ | exact isB_c _ _ | exact Nat.le_refl _ | assumption | exact mulLe (by decide) (by omega) | exact mulLe2 (by decide) (by omega) (by omega) | (intros; simp only [BL] at *; omega) | (intros; (try simp only [BL] at *); (try simp only [DL] at *); omega) | (intros; simp only [BL] at *; rw [wr_id (by omega) (by omega)]; omega) | (intro h1 h2; exact Bool.and_eq_true_iff.2 ⟨h1, h2⟩) | first | exact ⟨rfl, by omega, by decide⟩ | exact ⟨rfl, by decide, by decide⟩ | (intros; simp_all; done))); conv => whnf)
      | (refine Or.inr (And.intro rfl ?_); first | (refine congrArg intV ?_) | (refine congrArg boolV ?_) | (refine tupII ?_ ?_) | (refine tupIII ?_ ?_ ?_) | (refine tupU ?_ ?_ ?_ ?_ ?_) | exact rfl))
    · have e1 : fol G w d (b + 1) = fol G w d b := by rw [eo, hb]; rfl
      refine ⟨b + 1, [0, 1], (by omega : b + 1 ≤ 2 ^ G.n), by omega, ?_⟩
      refine Sub.of ?_ ?_ ?_
      repeat' (first | (refine And.intro ?_ ?_) | exact trivial | exact fun _ _ _ => hsc _ _ | (exact congrArg intV (by first | with_reducible rfl | with_reducible assumption)) | exact (rfl : AV.idsLt _ _ = true) | exact (rfl : _ = AV.ren _ (.own _)) | exact (rfl : _ = AV.ren _ (.fn _ _)) | exact (rfl : _ = AV.ren _ (.gh _)) | (exact congrArg intV (by assumption)) | (refine congrArg intV ((wr_id (by omega) (by omega)).trans (by omega))) | exact rfl | (simp only [Int.toNat_natCast, Int.toNat_zero, Nat.sub_zero, Nat.zero_add]; first | exact rfl | done) | exact all0 | exact fun h => Bool.noConfusion h | exact fun _ _ _ _ => rfl | omega)
      · rw [e1]
      · rw [e1]; exact fun _ _ _ _ => rfl
    refine CallG.mk (Fn.mono ((serveC G h o d hd).le (Le.cons (Le1.refl _) (Le.cons (Le1.sl fun k hk j hj => ?_) (Le.cons (Le1.refl _) Le.nil)))) ?_)
    · obtain rfl : j = 0 := by omega
      show bL (if k < G.n then o k else false) = bL (o k)
      rw [if_pos hk]
    rintro obs r ⟨rfl, K, g, c, rfl, hc⟩
    have hok := hb
    clear hb
    cases hcan : G.can o d with
    | false =>
      conv => whnf
      repeat' (first
        | (refine NilG.mk fun bn hbn hbx => ?_; conv => whnf)
        | (refine Both.mk ?_ ?_ <;> conv => whnf)
        | ((first | (refine MkG.box 1 rfl rfl rfl (by decide) ?_) | (refine MkG.box 2 rfl rfl rfl (by decide) ?_) | (refine MkG.box 3 rfl rfl rfl (by decide) ?_) | (refine MkG.row ?_)); conv => whnf)
        | exact trivial
        | (refine Br.mk (fun hb => ?_) (fun hb => ?_) <;> (first | (exfalso; revert hb; decide) | ((try simp only [BL] at hb) <;> (try simp only [DL] at hb) <;> (first | (exfalso; omega) | (conv => whnf)))))
        | (refine And.intro ?_ ?_; (focus (first | exact id | exact rfl | exact trivial | (intro hg; first | exact hg | exact rfl | (simp; done) | (simp at hg ⊢; assumption)) | omega | decide | exact is2_c _ _ _ | exact is1_c _ _ | exact isS_c _ _ | exact isB_c _ _ | exact Nat.le_refl _ | assumption | exact mulLe (by decide) (by omega) | exact mulLe2 (by decide) (by omega) (by omega) | (intros; simp only [BL] at *; omega) | (intros; (try simp only [BL] at *); (try simp only [DL] at *); omega) | (intros; simp only [BL] at *; rw [wr_id (by omega) (by omega)]; omega) | (intro h1 h2; exact Bool.and_eq_true_iff.2 ⟨h1, h2⟩) | (intros; simp_all; done))); conv => whnf)
        | (refine Or.inr (And.intro rfl ?_); first | (refine congrArg intV ?_) | (refine congrArg boolV ?_) | (refine tupII ?_ ?_) | (refine tupIII ?_ ?_ ?_) | (refine tupU ?_ ?_ ?_ ?_ ?_) | exact rfl))
      have e1 : fol G w d (b + 1) = fol G w d b := by rw [eo, hcan, Bool.and_false]; rfl
      refine ⟨b + 1, [0, 1], (by omega : b + 1 ≤ 2 ^ G.n), by omega, ?_⟩
      refine Sub.of ?_ ?_ ?_
      repeat' (first | (refine And.intro ?_ ?_) | exact trivial | exact fun _ _ _ => hsc _ _ | (exact congrArg intV (by first | with_reducible rfl | with_reducible assumption)) | exact (rfl : AV.idsLt _ _ = true) | exact (rfl : _ = AV.ren _ (.own _)) | exact (rfl : _ = AV.ren _ (.fn _ _)) | exact (rfl : _ = AV.ren _ (.gh _)) | (exact congrArg intV (by assumption)) | (refine congrArg intV ((wr_id (by omega) (by omega)).trans (by omega))) | exact rfl | (simp only [Int.toNat_natCast, Int.toNat_zero, Nat.sub_zero, Nat.zero_add]; first | exact rfl | done) | exact all0 | exact fun h => Bool.noConfusion h | exact fun _ _ _ _ => rfl | omega)
      · rw [e1]
      · rw [e1]; exact fun _ _ _ _ => rfl
    | true =>
    obtain ⟨rfl, rfl, rfl⟩ := hc hcan
    have e1 : fol G w d (b + 1) = fol G w d b ++ [nxW G w o d] := by rw [eo, hcan, hok]; rfl
    have ec : IntKind.i64.wrap (w.c + stW G.u o w.q G.n + G.sC o d) = (nxW G w o d).c := wr_id (by omega) (by omega)
    clear hc
    have hm8 := hw.m
    conv => whnf
    repeat' (first
      | (refine NilG.mk fun bn hbn hbx => ?_; conv => whnf)
      | (refine Both.mk ?_ ?_ <;> conv => whnf)
      | ((first | (refine MkG.box 1 rfl rfl rfl (by decide) ?_) | (refine MkG.box 2 rfl rfl rfl (by decide) ?_) | (refine MkG.box 3 rfl rfl rfl (by decide) ?_) | (refine MkG.row ?_)); conv => whnf)
      | exact trivial
      | (refine Br.mk (fun hb => ?_) (fun hb => ?_) <;> (first | (exfalso; revert hb; decide) | ((try simp only [BL] at hb) <;> (try simp only [DL] at hb) <;> (first | (exfalso; omega) | (conv => whnf)))))
      | (refine And.intro ?_ ?_; (focus (first | exact id | exact rfl | exact trivial | (intro hg; first | exact hg | exact rfl | (simp; done) | (simp at hg ⊢; assumption)) | omega | decide | exact is2_c _ _ _ | exact is1_c _ _ | exact isS_c _ _ | exact isB_c _ _ | exact Nat.le_refl _ | assumption | exact mulLe (by decide) (by omega) | exact mulLe2 (by decide) (by omega) (by omega) | (intros; simp only [BL] at *; omega) | (intros; (try simp only [BL] at *); (try simp only [DL] at *); omega) | (intros; simp only [BL] at *; rw [wr_id (by omega) (by omega)]; omega) | (intro h1 h2; exact Bool.and_eq_true_iff.2 ⟨h1, h2⟩) | (intros; simp_all; done))); conv => whnf)
      | (refine Or.inr (And.intro rfl ?_); first | (refine congrArg intV ?_) | (refine congrArg boolV ?_) | (refine tupII ?_ ?_) | (refine tupIII ?_ ?_ ?_) | (refine tupU ?_ ?_ ?_ ?_ ?_) | exact rfl))
    all_goals (refine CallG.mk (Fn.mono (cbCl w.m w.f (by omega)) ?_); rintro obs r' ⟨rfl, rfl⟩)
    all_goals (((conv => whnf); repeat' (first | (refine NilG.mk fun bn hbn hbx => ?_; conv => whnf) | (refine Both.mk ?_ ?_ <;> conv => whnf) | ((first | (refine MkG.box 1 rfl rfl rfl (by decide) ?_) | (refine MkG.box 2 rfl rfl rfl (by decide) ?_) | (refine MkG.box 3 rfl rfl rfl (by decide) ?_) | (refine MkG.row ?_)); conv => whnf) | exact trivial | (refine Br.mk (fun hb => ?_) (fun hb => ?_) <;> (first | (exfalso; revert hb; decide) | ((try simp only [BL] at hb) <;> (try simp only [DL] at hb) <;> conv => whnf))) | (refine And.intro ?_ ?_; (focus (first | exact id | exact rfl | exact trivial | (intro hg; first | exact hg | exact rfl | (simp; done) | (simp at hg ⊢; assumption)) | omega | decide | exact is2_c _ _ _ | exact is1_c _ _ | exact isS_c _ _ | exact isB_c _ _ | exact Nat.le_refl _ | assumption | exact mulLe (by decide) (by omega) | exact mulLe2 (by decide) (by omega) (by omega) | (intros; simp only [BL] at *; omega) | (intros; (try simp only [BL] at *); (try simp only [DL] at *); omega) | (intros; simp only [BL] at *; rw [wr_id (by omega) (by omega)]; omega) | (intro h1 h2; exact Bool.and_eq_true_iff.2 ⟨h1, h2⟩) | first | exact ⟨rfl, by omega, by decide⟩ | (intros; simp_all; done))); conv => whnf) | (refine Or.inr (And.intro rfl ?_); first | (refine congrArg intV ?_) | (refine congrArg boolV ?_) | (refine tupII ?_ ?_) | (refine tupIII ?_ ?_ ?_) | (refine tupU ?_ ?_ ?_ ?_ ?_) | exact rfl))))
    all_goals
      refine ⟨b + 1, [0, 8], (by omega : b + 1 ≤ 2 ^ G.n), by omega, ?_⟩
      refine Sub.of ?_ ?_ ?_
      repeat' (first | (refine And.intro ?_ ?_) | exact trivial | exact fun _ _ _ => hsc _ _ | (exact congrArg intV (by first | with_reducible rfl | with_reducible assumption)) | exact (rfl : AV.idsLt _ _ = true) | exact (rfl : _ = AV.ren _ (.own _)) | exact (rfl : _ = AV.ren _ (.fn _ _)) | exact (rfl : _ = AV.ren _ (.gh _)) | (exact congrArg intV (by assumption)) | (refine congrArg intV ((wr_id (by omega) (by omega)).trans (by omega))) | exact rfl | (simp only [Int.toNat_natCast, Int.toNat_zero, Nat.sub_zero, Nat.zero_add]; first | exact rfl | done) | exact all0 | exact fun h => Bool.noConfusion h | exact fun _ _ _ _ => rfl | omega)
      · rw [e1, List.length_append]; rfl
      · rw [ec, e1]; exact apW (ws := fol G w d b) (w' := nxW G w o d)
  match i, hi, hin with
  | 0, hi, hin =>
    have hb1 := hbit 0 (by decide)
    have hsI := hwsi 0
    have hst := hsb 0 (by omega)
    have hsu := stU_b (h.v 0 (by omega)) (o 0) (w.q.on 0)
    have hs1 : stW G.u o w.q (0 + 1) = stW G.u o w.q 0 + stU (G.u 0) (o 0) (w.q.on 0) := rfl
    conv => whnf
    repeat' (first
      | (refine NilG.mk fun bn hbn hbx => ?_; conv => whnf)
      | (refine Both.mk ?_ ?_ <;> conv => whnf)
      | ((first | (refine MkG.box 1 rfl rfl rfl (by decide) ?_) | (refine MkG.box 2 rfl rfl rfl (by decide) ?_) | (refine MkG.box 3 rfl rfl rfl (by decide) ?_) | (refine MkG.row ?_)); conv => whnf)
      | exact trivial
      | (refine Br.mk (fun hb => ?_) (fun hb => ?_) <;> (first | (exfalso; revert hb; decide) | ((try simp only [BL] at hb) <;> (try simp only [DL] at hb) <;> (first | (exfalso; omega) | (conv => whnf)))))
      | (refine And.intro ?_ ?_; (focus (first | exact id | exact rfl | exact trivial | (intro hg; first | exact hg | exact rfl | (simp; done) | (simp at hg ⊢; assumption)) | omega | decide | exact is2_c _ _ _ | exact is1_c _ _ | exact isS_c _ _ | exact isB_c _ _ | exact Nat.le_refl _ | assumption | exact mulLe (by decide) (by omega) | exact mulLe2 (by decide) (by omega) (by omega) | (intros; simp only [BL] at *; omega) | (intros; (try simp only [BL] at *); (try simp only [DL] at *); omega) | (intros; simp only [BL] at *; rw [wr_id (by omega) (by omega)]; omega) | (intro h1 h2; exact Bool.and_eq_true_iff.2 ⟨h1, h2⟩) | first | exact ⟨rfl, by omega, by decide⟩ | exact ⟨rfl, by decide, by decide⟩ | (intros; simp_all; done))); conv => whnf)
      | (refine Or.inr (And.intro rfl ?_); first | (refine congrArg intV ?_) | (refine congrArg boolV ?_) | (refine tupII ?_ ?_) | (refine tupIII ?_ ?_ ?_) | (refine tupU ?_ ?_ ?_ ?_ ?_) | exact rfl))
    · have e : o 0 = w.q.on 0 := (hb1.symm.trans hb).trans nxt_on0
      have f1 : (nxt o w.q 0).on 0 = (nxt o w.q (0 + 1)).on 0 := by rw [nxt_on0, nxt_on1, e]
      have f2 : min (IntKind.i64.wrap ((nxt o w.q 0).si 0 + 1)) 200000 = (nxt o w.q (0 + 1)).si 0 := by rw [nxt_si0, nxt_si1, if_pos e, wr_id (by omega) (by omega)]
      have f3 : okW G.u o w.q 0 = okW G.u o w.q (0 + 1) := by rw [okW_s (i := 0)]; unfold okU; rw [e]; simp
      have f4 : w.c + stW G.u o w.q 0 = w.c + stW G.u o w.q (0 + 1) := by rw [hs1]; unfold stU; rw [e]; cases w.q.on 0 <;> simp
      refine ⟨0 + 1, [0, 1, 2, 3], (by omega : 0 + 1 ≤ G.n), by omega, ?_⟩
      refine Sub.of ?_ ?_ ?_
      repeat' (first | (first | exact bx0 f1 f2 | exact congrArg boolV (by assumption)) | (refine And.intro ?_ ?_) | exact trivial | exact fun _ _ _ => hsc _ _ | (exact congrArg intV (by first | with_reducible rfl | with_reducible assumption)) | exact (rfl : AV.idsLt _ _ = true) | exact (rfl : _ = AV.ren _ (.own _)) | exact (rfl : _ = AV.ren _ (.fn _ _)) | exact (rfl : _ = AV.ren _ (.gh _)) | (exact congrArg intV (by assumption)) | (refine congrArg intV ((wr_id (by omega) (by omega)).trans (by omega))) | exact rfl | (simp only [Int.toNat_natCast, Int.toNat_zero, Nat.sub_zero, Nat.zero_add]; first | exact rfl | done) | exact all0 | exact fun h => Bool.noConfusion h | exact fun _ _ _ _ => rfl | omega)
      exact rowBit hb1
    · rename_i hne
      have e : ¬ o 0 = w.q.on 0 := fun e => hne ((hb1.trans e).trans nxt_on0.symm)
      have e1 : w.q.on 0 = true := nxt_on0.symm.trans hb
      have e2 : o 0 = false := by rw [e1] at e; simpa using e
      have f1 : (andI .i64 (shrI .i64 (b : Int) ((0 : Nat) : Int)) 1 == 1) = (nxt o w.q (0 + 1)).on 0 := hb1.trans nxt_on1.symm
      have f2 : (1 : Int) = (nxt o w.q (0 + 1)).si 0 := by rw [nxt_si1, if_neg e]
      have f3 : (okW G.u o w.q 0 && decide ((nxt o w.q 0).si 0 ≥ (G.u 0).r.mi)) = okW G.u o w.q (0 + 1) := by rw [okW_s (i := 0), nxt_si0]; unfold okU; rw [e1, e2]; rfl
      have f4 : w.c + stW G.u o w.q 0 = w.c + stW G.u o w.q (0 + 1) := by rw [hs1]; unfold stU; rw [e2]; simp
      refine ⟨0 + 1, [0, 1, 2, 3], (by omega : 0 + 1 ≤ G.n), by omega, ?_⟩
      refine Sub.of ?_ ?_ ?_
      repeat' (first | (first | exact bx0 f1 f2 | exact congrArg boolV (by assumption)) | (refine And.intro ?_ ?_) | exact trivial | exact fun _ _ _ => hsc _ _ | (exact congrArg intV (by first | with_reducible rfl | with_reducible assumption)) | exact (rfl : AV.idsLt _ _ = true) | exact (rfl : _ = AV.ren _ (.own _)) | exact (rfl : _ = AV.ren _ (.fn _ _)) | exact (rfl : _ = AV.ren _ (.gh _)) | (exact congrArg intV (by assumption)) | (refine congrArg intV ((wr_id (by omega) (by omega)).trans (by omega))) | exact rfl | (simp only [Int.toNat_natCast, Int.toNat_zero, Nat.sub_zero, Nat.zero_add]; first | exact rfl | done) | exact all0 | exact fun h => Bool.noConfusion h | exact fun _ _ _ _ => rfl | omega)
      exact rowBit hb1
    · rename_i hne
      have e : ¬ o 0 = w.q.on 0 := fun e => hne ((hb1.trans e).trans nxt_on0.symm)
      have e1 : w.q.on 0 = false := nxt_on0.symm.trans hb
      have e2 : o 0 = true := by rw [e1] at e; simpa using e
      have f1 : (andI .i64 (shrI .i64 (b : Int) ((0 : Nat) : Int)) 1 == 1) = (nxt o w.q (0 + 1)).on 0 := hb1.trans nxt_on1.symm
      have f2 : (1 : Int) = (nxt o w.q (0 + 1)).si 0 := by rw [nxt_si1, if_neg e]
      have f3 : (okW G.u o w.q 0 && decide ((nxt o w.q 0).si 0 ≥ (G.u 0).r.mf)) = okW G.u o w.q (0 + 1) := by rw [okW_s (i := 0), nxt_si0]; unfold okU; rw [e1, e2]; rfl
      have f5 : stU (G.u 0) (o 0) (w.q.on 0) = (G.u 0).r.st := by unfold stU; rw [e1, e2]; rfl
      have f4 : IntKind.i64.wrap (w.c + stW G.u o w.q 0 + (G.u 0).r.st) = w.c + stW G.u o w.q (0 + 1) := by rw [wr_id (by omega) (by omega)]; omega
      refine ⟨0 + 1, [0, 1, 2, 3], (by omega : 0 + 1 ≤ G.n), by omega, ?_⟩
      refine Sub.of ?_ ?_ ?_
      repeat' (first | (first | exact bx0 f1 f2 | exact congrArg boolV (by assumption)) | (refine And.intro ?_ ?_) | exact trivial | exact fun _ _ _ => hsc _ _ | (exact congrArg intV (by first | with_reducible rfl | with_reducible assumption)) | exact (rfl : AV.idsLt _ _ = true) | exact (rfl : _ = AV.ren _ (.own _)) | exact (rfl : _ = AV.ren _ (.fn _ _)) | exact (rfl : _ = AV.ren _ (.gh _)) | (exact congrArg intV (by assumption)) | (refine congrArg intV ((wr_id (by omega) (by omega)).trans (by omega))) | exact rfl | (simp only [Int.toNat_natCast, Int.toNat_zero, Nat.sub_zero, Nat.zero_add]; first | exact rfl | done) | exact all0 | exact fun h => Bool.noConfusion h | exact fun _ _ _ _ => rfl | omega)
      exact rowBit hb1
  | 1, hi, hin =>
    have hb1 := hbit 1 (by decide)
    have hsI := hwsi 1
    have hst := hsb 1 (by omega)
    have hsu := stU_b (h.v 1 (by omega)) (o 1) (w.q.on 1)
    have hs1 : stW G.u o w.q (1 + 1) = stW G.u o w.q 1 + stU (G.u 1) (o 1) (w.q.on 1) := rfl
    conv => whnf
    repeat' (first
      | (refine NilG.mk fun bn hbn hbx => ?_; conv => whnf)
      | (refine Both.mk ?_ ?_ <;> conv => whnf)
      | ((first | (refine MkG.box 1 rfl rfl rfl (by decide) ?_) | (refine MkG.box 2 rfl rfl rfl (by decide) ?_) | (refine MkG.box 3 rfl rfl rfl (by decide) ?_) | (refine MkG.row ?_)); conv => whnf)
      | exact trivial
      | (refine Br.mk (fun hb => ?_) (fun hb => ?_) <;> (first | (exfalso; revert hb; decide) | ((try simp only [BL] at hb) <;> (try simp only [DL] at hb) <;> (first | (exfalso; omega) | (conv => whnf)))))
      | (refine And.intro ?_ ?_; (focus (first | exact id | exact rfl | exact trivial | (intro hg; first | exact hg | exact rfl | (simp; done) | (simp at hg ⊢; assumption)) | omega | decide | exact is2_c _ _ _ | exact is1_c _ _ | exact isS_c _ _ | exact isB_c _ _ | exact Nat.le_refl _ | assumption | exact mulLe (by decide) (by omega) | exact mulLe2 (by decide) (by omega) (by omega) | (intros; simp only [BL] at *; omega) | (intros; (try simp only [BL] at *); (try simp only [DL] at *); omega) | (intros; simp only [BL] at *; rw [wr_id (by omega) (by omega)]; omega) | (intro h1 h2; exact Bool.and_eq_true_iff.2 ⟨h1, h2⟩) | first | exact ⟨rfl, by omega, by decide⟩ | exact ⟨rfl, by decide, by decide⟩ | (intros; simp_all; done))); conv => whnf)
      | (refine Or.inr (And.intro rfl ?_); first | (refine congrArg intV ?_) | (refine congrArg boolV ?_) | (refine tupII ?_ ?_) | (refine tupIII ?_ ?_ ?_) | (refine tupU ?_ ?_ ?_ ?_ ?_) | exact rfl))
    · have e : o 1 = w.q.on 1 := (hb1.symm.trans hb).trans nxt_on0
      have f1 : (nxt o w.q 1).on 1 = (nxt o w.q (1 + 1)).on 1 := by rw [nxt_on0, nxt_on1, e]
      have f2 : min (IntKind.i64.wrap ((nxt o w.q 1).si 1 + 1)) 200000 = (nxt o w.q (1 + 1)).si 1 := by rw [nxt_si0, nxt_si1, if_pos e, wr_id (by omega) (by omega)]
      have f3 : okW G.u o w.q 1 = okW G.u o w.q (1 + 1) := by rw [okW_s (i := 1)]; unfold okU; rw [e]; simp
      have f4 : w.c + stW G.u o w.q 1 = w.c + stW G.u o w.q (1 + 1) := by rw [hs1]; unfold stU; rw [e]; cases w.q.on 1 <;> simp
      refine ⟨1 + 1, [0, 1, 2, 3], (by omega : 1 + 1 ≤ G.n), by omega, ?_⟩
      refine Sub.of ?_ ?_ ?_
      repeat' (first | (first | exact bx1 f1 f2 | exact congrArg boolV (by assumption)) | (refine And.intro ?_ ?_) | exact trivial | exact fun _ _ _ => hsc _ _ | (exact congrArg intV (by first | with_reducible rfl | with_reducible assumption)) | exact (rfl : AV.idsLt _ _ = true) | exact (rfl : _ = AV.ren _ (.own _)) | exact (rfl : _ = AV.ren _ (.fn _ _)) | exact (rfl : _ = AV.ren _ (.gh _)) | (exact congrArg intV (by assumption)) | (refine congrArg intV ((wr_id (by omega) (by omega)).trans (by omega))) | exact rfl | (simp only [Int.toNat_natCast, Int.toNat_zero, Nat.sub_zero, Nat.zero_add]; first | exact rfl | done) | exact all0 | exact fun h => Bool.noConfusion h | exact fun _ _ _ _ => rfl | omega)
      exact rowBit hb1
    · rename_i hne
      have e : ¬ o 1 = w.q.on 1 := fun e => hne ((hb1.trans e).trans nxt_on0.symm)
      have e1 : w.q.on 1 = true := nxt_on0.symm.trans hb
      have e2 : o 1 = false := by rw [e1] at e; simpa using e
      have f1 : (andI .i64 (shrI .i64 (b : Int) ((1 : Nat) : Int)) 1 == 1) = (nxt o w.q (1 + 1)).on 1 := hb1.trans nxt_on1.symm
      have f2 : (1 : Int) = (nxt o w.q (1 + 1)).si 1 := by rw [nxt_si1, if_neg e]
      have f3 : (okW G.u o w.q 1 && decide ((nxt o w.q 1).si 1 ≥ (G.u 1).r.mi)) = okW G.u o w.q (1 + 1) := by rw [okW_s (i := 1), nxt_si0]; unfold okU; rw [e1, e2]; rfl
      have f4 : w.c + stW G.u o w.q 1 = w.c + stW G.u o w.q (1 + 1) := by rw [hs1]; unfold stU; rw [e2]; simp
      refine ⟨1 + 1, [0, 1, 2, 3], (by omega : 1 + 1 ≤ G.n), by omega, ?_⟩
      refine Sub.of ?_ ?_ ?_
      repeat' (first | (first | exact bx1 f1 f2 | exact congrArg boolV (by assumption)) | (refine And.intro ?_ ?_) | exact trivial | exact fun _ _ _ => hsc _ _ | (exact congrArg intV (by first | with_reducible rfl | with_reducible assumption)) | exact (rfl : AV.idsLt _ _ = true) | exact (rfl : _ = AV.ren _ (.own _)) | exact (rfl : _ = AV.ren _ (.fn _ _)) | exact (rfl : _ = AV.ren _ (.gh _)) | (exact congrArg intV (by assumption)) | (refine congrArg intV ((wr_id (by omega) (by omega)).trans (by omega))) | exact rfl | (simp only [Int.toNat_natCast, Int.toNat_zero, Nat.sub_zero, Nat.zero_add]; first | exact rfl | done) | exact all0 | exact fun h => Bool.noConfusion h | exact fun _ _ _ _ => rfl | omega)
      exact rowBit hb1
    · rename_i hne
      have e : ¬ o 1 = w.q.on 1 := fun e => hne ((hb1.trans e).trans nxt_on0.symm)
      have e1 : w.q.on 1 = false := nxt_on0.symm.trans hb
      have e2 : o 1 = true := by rw [e1] at e; simpa using e
      have f1 : (andI .i64 (shrI .i64 (b : Int) ((1 : Nat) : Int)) 1 == 1) = (nxt o w.q (1 + 1)).on 1 := hb1.trans nxt_on1.symm
      have f2 : (1 : Int) = (nxt o w.q (1 + 1)).si 1 := by rw [nxt_si1, if_neg e]
      have f3 : (okW G.u o w.q 1 && decide ((nxt o w.q 1).si 1 ≥ (G.u 1).r.mf)) = okW G.u o w.q (1 + 1) := by rw [okW_s (i := 1), nxt_si0]; unfold okU; rw [e1, e2]; rfl
      have f5 : stU (G.u 1) (o 1) (w.q.on 1) = (G.u 1).r.st := by unfold stU; rw [e1, e2]; rfl
      have f4 : IntKind.i64.wrap (w.c + stW G.u o w.q 1 + (G.u 1).r.st) = w.c + stW G.u o w.q (1 + 1) := by rw [wr_id (by omega) (by omega)]; omega
      refine ⟨1 + 1, [0, 1, 2, 3], (by omega : 1 + 1 ≤ G.n), by omega, ?_⟩
      refine Sub.of ?_ ?_ ?_
      repeat' (first | (first | exact bx1 f1 f2 | exact congrArg boolV (by assumption)) | (refine And.intro ?_ ?_) | exact trivial | exact fun _ _ _ => hsc _ _ | (exact congrArg intV (by first | with_reducible rfl | with_reducible assumption)) | exact (rfl : AV.idsLt _ _ = true) | exact (rfl : _ = AV.ren _ (.own _)) | exact (rfl : _ = AV.ren _ (.fn _ _)) | exact (rfl : _ = AV.ren _ (.gh _)) | (exact congrArg intV (by assumption)) | (refine congrArg intV ((wr_id (by omega) (by omega)).trans (by omega))) | exact rfl | (simp only [Int.toNat_natCast, Int.toNat_zero, Nat.sub_zero, Nat.zero_add]; first | exact rfl | done) | exact all0 | exact fun h => Bool.noConfusion h | exact fun _ _ _ _ => rfl | omega)
      exact rowBit hb1
  | 2, hi, hin =>
    have hb1 := hbit 2 (by decide)
    have hsI := hwsi 2
    have hst := hsb 2 (by omega)
    have hsu := stU_b (h.v 2 (by omega)) (o 2) (w.q.on 2)
    have hs1 : stW G.u o w.q (2 + 1) = stW G.u o w.q 2 + stU (G.u 2) (o 2) (w.q.on 2) := rfl
    conv => whnf
    repeat' (first
      | (refine NilG.mk fun bn hbn hbx => ?_; conv => whnf)
      | (refine Both.mk ?_ ?_ <;> conv => whnf)
      | ((first | (refine MkG.box 1 rfl rfl rfl (by decide) ?_) | (refine MkG.box 2 rfl rfl rfl (by decide) ?_) | (refine MkG.box 3 rfl rfl rfl (by decide) ?_) | (refine MkG.row ?_)); conv => whnf)
      | exact trivial
      | (refine Br.mk (fun hb => ?_) (fun hb => ?_) <;> (first | (exfalso; revert hb; decide) | ((try simp only [BL] at hb) <;> (try simp only [DL] at hb) <;> (first | (exfalso; omega) | (conv => whnf)))))
      | (refine And.intro ?_ ?_; (focus (first | exact id | exact rfl | exact trivial | (intro hg; first | exact hg | exact rfl | (simp; done) | (simp at hg ⊢; assumption)) | omega | decide | exact is2_c _ _ _ | exact is1_c _ _ | exact isS_c _ _ | exact isB_c _ _ | exact Nat.le_refl _ | assumption | exact mulLe (by decide) (by omega) | exact mulLe2 (by decide) (by omega) (by omega) | (intros; simp only [BL] at *; omega) | (intros; (try simp only [BL] at *); (try simp only [DL] at *); omega) | (intros; simp only [BL] at *; rw [wr_id (by omega) (by omega)]; omega) | (intro h1 h2; exact Bool.and_eq_true_iff.2 ⟨h1, h2⟩) | first | exact ⟨rfl, by omega, by decide⟩ | exact ⟨rfl, by decide, by decide⟩ | (intros; simp_all; done))); conv => whnf)
      | (refine Or.inr (And.intro rfl ?_); first | (refine congrArg intV ?_) | (refine congrArg boolV ?_) | (refine tupII ?_ ?_) | (refine tupIII ?_ ?_ ?_) | (refine tupU ?_ ?_ ?_ ?_ ?_) | exact rfl))
    · have e : o 2 = w.q.on 2 := (hb1.symm.trans hb).trans nxt_on0
      have f1 : (nxt o w.q 2).on 2 = (nxt o w.q (2 + 1)).on 2 := by rw [nxt_on0, nxt_on1, e]
      have f2 : min (IntKind.i64.wrap ((nxt o w.q 2).si 2 + 1)) 200000 = (nxt o w.q (2 + 1)).si 2 := by rw [nxt_si0, nxt_si1, if_pos e, wr_id (by omega) (by omega)]
      have f3 : okW G.u o w.q 2 = okW G.u o w.q (2 + 1) := by rw [okW_s (i := 2)]; unfold okU; rw [e]; simp
      have f4 : w.c + stW G.u o w.q 2 = w.c + stW G.u o w.q (2 + 1) := by rw [hs1]; unfold stU; rw [e]; cases w.q.on 2 <;> simp
      refine ⟨2 + 1, [0, 1, 2, 3], (by omega : 2 + 1 ≤ G.n), by omega, ?_⟩
      refine Sub.of ?_ ?_ ?_
      repeat' (first | (first | exact bx2 f1 f2 | exact congrArg boolV (by assumption)) | (refine And.intro ?_ ?_) | exact trivial | exact fun _ _ _ => hsc _ _ | (exact congrArg intV (by first | with_reducible rfl | with_reducible assumption)) | exact (rfl : AV.idsLt _ _ = true) | exact (rfl : _ = AV.ren _ (.own _)) | exact (rfl : _ = AV.ren _ (.fn _ _)) | exact (rfl : _ = AV.ren _ (.gh _)) | (exact congrArg intV (by assumption)) | (refine congrArg intV ((wr_id (by omega) (by omega)).trans (by omega))) | exact rfl | (simp only [Int.toNat_natCast, Int.toNat_zero, Nat.sub_zero, Nat.zero_add]; first | exact rfl | done) | exact all0 | exact fun h => Bool.noConfusion h | exact fun _ _ _ _ => rfl | omega)
      exact rowBit hb1
    · rename_i hne
      have e : ¬ o 2 = w.q.on 2 := fun e => hne ((hb1.trans e).trans nxt_on0.symm)
      have e1 : w.q.on 2 = true := nxt_on0.symm.trans hb
      have e2 : o 2 = false := by rw [e1] at e; simpa using e
      have f1 : (andI .i64 (shrI .i64 (b : Int) ((2 : Nat) : Int)) 1 == 1) = (nxt o w.q (2 + 1)).on 2 := hb1.trans nxt_on1.symm
      have f2 : (1 : Int) = (nxt o w.q (2 + 1)).si 2 := by rw [nxt_si1, if_neg e]
      have f3 : (okW G.u o w.q 2 && decide ((nxt o w.q 2).si 2 ≥ (G.u 2).r.mi)) = okW G.u o w.q (2 + 1) := by rw [okW_s (i := 2), nxt_si0]; unfold okU; rw [e1, e2]; rfl
      have f4 : w.c + stW G.u o w.q 2 = w.c + stW G.u o w.q (2 + 1) := by rw [hs1]; unfold stU; rw [e2]; simp
      refine ⟨2 + 1, [0, 1, 2, 3], (by omega : 2 + 1 ≤ G.n), by omega, ?_⟩
      refine Sub.of ?_ ?_ ?_
      repeat' (first | (first | exact bx2 f1 f2 | exact congrArg boolV (by assumption)) | (refine And.intro ?_ ?_) | exact trivial | exact fun _ _ _ => hsc _ _ | (exact congrArg intV (by first | with_reducible rfl | with_reducible assumption)) | exact (rfl : AV.idsLt _ _ = true) | exact (rfl : _ = AV.ren _ (.own _)) | exact (rfl : _ = AV.ren _ (.fn _ _)) | exact (rfl : _ = AV.ren _ (.gh _)) | (exact congrArg intV (by assumption)) | (refine congrArg intV ((wr_id (by omega) (by omega)).trans (by omega))) | exact rfl | (simp only [Int.toNat_natCast, Int.toNat_zero, Nat.sub_zero, Nat.zero_add]; first | exact rfl | done) | exact all0 | exact fun h => Bool.noConfusion h | exact fun _ _ _ _ => rfl | omega)
      exact rowBit hb1
    · rename_i hne
      have e : ¬ o 2 = w.q.on 2 := fun e => hne ((hb1.trans e).trans nxt_on0.symm)
      have e1 : w.q.on 2 = false := nxt_on0.symm.trans hb
      have e2 : o 2 = true := by rw [e1] at e; simpa using e
      have f1 : (andI .i64 (shrI .i64 (b : Int) ((2 : Nat) : Int)) 1 == 1) = (nxt o w.q (2 + 1)).on 2 := hb1.trans nxt_on1.symm
      have f2 : (1 : Int) = (nxt o w.q (2 + 1)).si 2 := by rw [nxt_si1, if_neg e]
      have f3 : (okW G.u o w.q 2 && decide ((nxt o w.q 2).si 2 ≥ (G.u 2).r.mf)) = okW G.u o w.q (2 + 1) := by rw [okW_s (i := 2), nxt_si0]; unfold okU; rw [e1, e2]; rfl
      have f5 : stU (G.u 2) (o 2) (w.q.on 2) = (G.u 2).r.st := by unfold stU; rw [e1, e2]; rfl
      have f4 : IntKind.i64.wrap (w.c + stW G.u o w.q 2 + (G.u 2).r.st) = w.c + stW G.u o w.q (2 + 1) := by rw [wr_id (by omega) (by omega)]; omega
      refine ⟨2 + 1, [0, 1, 2, 3], (by omega : 2 + 1 ≤ G.n), by omega, ?_⟩
      refine Sub.of ?_ ?_ ?_
      repeat' (first | (first | exact bx2 f1 f2 | exact congrArg boolV (by assumption)) | (refine And.intro ?_ ?_) | exact trivial | exact fun _ _ _ => hsc _ _ | (exact congrArg intV (by first | with_reducible rfl | with_reducible assumption)) | exact (rfl : AV.idsLt _ _ = true) | exact (rfl : _ = AV.ren _ (.own _)) | exact (rfl : _ = AV.ren _ (.fn _ _)) | exact (rfl : _ = AV.ren _ (.gh _)) | (exact congrArg intV (by assumption)) | (refine congrArg intV ((wr_id (by omega) (by omega)).trans (by omega))) | exact rfl | (simp only [Int.toNat_natCast, Int.toNat_zero, Nat.sub_zero, Nat.zero_add]; first | exact rfl | done) | exact all0 | exact fun h => Bool.noConfusion h | exact fun _ _ _ _ => rfl | omega)
      exact rowBit hb1
  | i + 3, hi, hin => exact absurd hin (by omega)
end Go.Proofs.Ytemfikdogdadnaa
