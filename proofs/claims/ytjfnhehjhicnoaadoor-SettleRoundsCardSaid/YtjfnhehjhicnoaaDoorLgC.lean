/-
  Large numbers: shortDiv, addWords, subWords.
-/
import Derived.Test.YtjfnhehjhicnoaaDoorLgB
namespace Go.Proofs.YtjfnhehjhicnoaaDoor
open Go.RowKit

/-- one word stored -/
theorem row_set1 {f g : Nat → Nat → L} {i n : Nat} {v : L} (hi : v = g i 0) (ho : ∀ a, a < n → a ≠ i → f a 0 = g a 0) : ∀ a, a < n → ∀ b, b < 1 → (fun k' j' => if k' = i then if 0 ≤ j' ∧ j' < 0 + [v].length then [v][j' - 0]?.getD L.un else f k' j' else f k' j') a b = g a b := fun a ha b hb => by
  obtain rfl : b = 0 := by omega
  by_cases h : a = i
  · subst h
    refine (if_pos rfl).trans ?_
    exact hi
  · exact (if_neg h).trans (ho a ha h)
/-- what shortDiv has when the words from i on are done -/
def sdF (A d i : Nat) : Nat → Nat → L := fun k _ => .v (.int .u32 (if k < i then 0 else ((dg (A / d) k : Nat) : Int)))
/-- what is left above word i -/
def sRm (A d i : Nat) : Nat := A / 4294967296 ^ i % d
theorem sd_step {A d i : Nat} (hd : 0 < d) (hd2 : d < 4294967296) : (A / 4294967296 ^ (i + 1) % d * 4294967296 + dg A i) / d = dg (A / d) i ∧ (A / 4294967296 ^ (i + 1) % d * 4294967296 + dg A i) % d = A / 4294967296 ^ i % d ∧ dg (A / d) i < 4294967296 := by
  refine ⟨?_, ?_, dg_lt _ _⟩
  · have h1 : dg (A / d) i = (A / 4294967296 ^ i / d) % 4294967296 := by
      unfold dg
      rw [Nat.div_div_eq_div_mul, Nat.div_div_eq_div_mul, Nat.mul_comm]
    rw [h1, dv_step A i]
    generalize A / 4294967296 ^ (i + 1) = Q
    generalize hx : dg A i = x
    have hx : x < 4294967296 := hx ▸ dg_lt A i
    have h2 : Q * 4294967296 + x = (Q % d * 4294967296 + x) + (Q / d * 4294967296) * d := by
      have := Nat.div_add_mod Q d
      calc Q * 4294967296 + x = (d * (Q / d) + Q % d) * 4294967296 + x := by rw [this]
        _ = _ := by rw [Nat.add_mul]; rw [Nat.mul_comm d, Nat.mul_right_comm]; omega
    have h3 : (Q % d * 4294967296 + x) / d < 4294967296 := by
      rw [Nat.div_lt_iff_lt_mul hd]
      have := Nat.mod_lt Q hd
      have h3 : Q % d * 4294967296 + x < (Q % d + 1) * 4294967296 := by rw [Nat.add_mul]; omega
      exact Nat.lt_of_lt_of_le h3 (by rw [Nat.mul_comm 4294967296]; exact Nat.mul_le_mul_right _ this)
    conv => rhs; rw [h2, Nat.add_mul_div_right _ _ hd, Nat.add_mul_mod_self_right, Nat.mod_eq_of_lt h3]
  · rw [dv_step A i]
    generalize A / 4294967296 ^ (i + 1) = Q
    conv => lhs; rw [Nat.add_mod, Nat.mul_mod, Nat.mod_mod, ← Nat.mul_mod, ← Nat.add_mod]
set_option maxHeartbeats 4000000 in
theorem lgShort (n A d : Nat) (hn : n ≤ 1000) (hA : A < 4294967296 ^ n) (hd : 0 < d) (hd2 : d < 4294967296) : Fn1 Tryd.prog 120 [wdV n A, u32V ((d : Nat) : Int)] (.tup [wdV n (A / d), u32V ((A % d : Nat) : Int)]) := by
  refine fn_of_wpx (O := lex) tab_ok (Γ := fun _ => none) (fun _ _ h => by cases h) mixed Tryd.func120 (by kernel_rfl) rfl rfl rfl (by simp [Tryd.ntmps120]) (by kernel_rfl) ?_
  have e0 : (0 : Int) = ((sRm A d n : Nat) : Int) := by
    unfold sRm
    rw [Nat.div_eq_of_lt hA, Nat.zero_mod]
    rfl
  conv => whnf
  repeat' (first
    | (refine NilG.mk fun bn hbn hbx => ?_; conv => whnf)
    | (refine Both.mk ?_ ?_ <;> conv => whnf)
    | ((first | (refine MkG.box 1 rfl rfl rfl (by decide) ?_) | (refine MkG.box 2 rfl rfl rfl (by decide) ?_) | (refine MkG.box 3 rfl rfl rfl (by decide) ?_) | (refine MkG.row ?_)); conv => whnf)
    | (refine LitG.row ?_; conv => whnf)
    | exact trivial
    | (refine Br.mk (fun hb => ?_) (fun hb => ?_) <;> (first | (exfalso; revert hb; decide) | ((try simp only [BL] at hb) <;> (try simp only [DL] at hb) <;> (first | (exfalso; omega) | (conv => whnf)))))
    | (refine And.intro ?_ ?_; (focus (first | exact id | exact rfl | exact trivial | (intro hg; first | exact hg | exact rfl | (simp; done) | (simp at hg ⊢; assumption)) | omega | decide | exact is2_c _ _ _ | exact is1_c _ _ | exact isS_c _ _ | exact isB_c _ _ | exact Nat.le_refl _ | assumption | exact mulLe (by decide) (by omega) | exact mulLe2 (by decide) (by omega) (by omega) | (intros; simp only [BL] at *; omega) | (intros; (try simp only [BL] at *); (try simp only [DL] at *); omega) | (intros; simp only [BL] at *; rw [wr_id (by omega) (by omega)]; omega) | (intro h1 h2; exact Bool.and_eq_true_iff.2 ⟨h1, h2⟩) | (intros; simp_all; done))); conv => whnf)
    | (refine Or.inr (And.intro rfl ?_); first | (refine congrArg intV ?_) | (refine congrArg boolV ?_) | (refine tupII ?_ ?_) | (refine tupIII ?_ ?_ ?_) | (refine tupU ?_ ?_ ?_ ?_ ?_) | exact rfl))
  refine sem_loop tab_ok gamN1_ok mixed (by kernel_rfl) (O := lex) (fun i : Nat => ⟨[(0, wdV n A), (1, u32V ((d : Nat) : Int)), (6, .own 0), (7, u64V ((sRm A d i : Nat) : Int)), (8, intV ((i : Int) - 1))], [.row 137 1 n false (sdF A d i)]⟩) (fun i => i ≤ n) (fun i => i) ⟨n, [?_], Nat.le_refl _, ?_⟩ fun i hi => ?_
  rotate_left 1
  · refine Sub.of ?_ ?_ ?_
    repeat' (first | (refine And.intro ?_ ?_) | exact trivial | exact fun _ _ _ => hsc _ _ | (exact congrArg intV (by first | with_reducible rfl | with_reducible assumption)) | exact (rfl : AV.idsLt _ _ = true) | exact (rfl : _ = AV.ren _ (.own _)) | exact (rfl : _ = AV.ren _ (.fn _ _)) | exact (rfl : _ = AV.ren _ (.gh _)) | (exact congrArg intV (by assumption)) | (refine congrArg intV ((wr_id (by omega) (by omega)).trans (by omega))) | exact rfl | (simp only [NLc]; first | exact rfl | done) | exact all0 | exact fun h => Bool.noConfusion h | exact fun _ _ _ _ => rfl | omega)
    · exact (congrArg (fun z : Int => u64V z) e0 : _)
    · intro a ha b hb
      have hb : b < 1 := hb
      have ha : a < n := ha
      obtain rfl : b = 0 := by omega
      show L.v (Value.int .u32 0) = L.v (Value.int .u32 (if a < n then 0 else _))
      rw [if_pos ha]
  rcases Nat.eq_zero_or_pos i with rfl | hp
  · have hf : sdF A d 0 = cW (A / d) := rfl
    have hr : sRm A d 0 = A % d := by
      unfold sRm
      rw [Nat.pow_zero, Nat.div_one]
    rw [hf, hr]
    have hw : IntKind.u32.wrap ((A % d : Nat) : Int) = ((A % d : Nat) : Int) := wr32_id (Nat.lt_trans (Nat.mod_lt _ hd) hd2)
    conv => whnf
    repeat' (first
      | (refine NilG.mk fun bn hbn hbx => ?_; conv => whnf)
      | (refine Both.mk ?_ ?_ <;> conv => whnf)
      | ((first | (refine MkG.box 1 rfl rfl rfl (by decide) ?_) | (refine MkG.box 2 rfl rfl rfl (by decide) ?_) | (refine MkG.box 3 rfl rfl rfl (by decide) ?_) | (refine MkG.row ?_)); conv => whnf)
      | (refine LitG.row ?_; conv => whnf)
      | exact trivial
      | (refine Br.mk (fun hb => ?_) (fun hb => ?_) <;> (first | (exfalso; revert hb; decide) | ((try simp only [BL] at hb) <;> (try simp only [DL] at hb) <;> (first | (exfalso; omega) | (conv => whnf)))))
      | (refine And.intro ?_ ?_; (focus (first | exact id | exact rfl | exact trivial | (intro hg; first | exact hg | exact rfl | (simp; done) | (simp at hg ⊢; assumption)) | omega | decide | exact is2_c _ _ _ | exact is1_c _ _ | exact isS_c _ _ | exact isB_c _ _ | exact Nat.le_refl _ | assumption | exact mulLe (by decide) (by omega) | exact mulLe2 (by decide) (by omega) (by omega) | (intros; simp only [BL] at *; omega) | (intros; (try simp only [BL] at *); (try simp only [DL] at *); omega) | (intros; simp only [BL] at *; rw [wr_id (by omega) (by omega)]; omega) | (intro h1 h2; exact Bool.and_eq_true_iff.2 ⟨h1, h2⟩) | (intros; simp_all; done))); conv => whnf)
      | (refine Or.inr (And.intro rfl ?_); first | (refine congrArg intV ?_) | (refine congrArg boolV ?_) | (refine tupII ?_ ?_) | (refine tupIII ?_ ?_ ?_) | (refine tupU ?_ ?_ ?_ ?_ ?_) | exact rfl))
    exact .inr ⟨rfl, congrArg (fun z : Int => AV.tup [wdV n (A / d), u32V z]) hw⟩
  obtain ⟨i, rfl⟩ : ∃ k, i = k + 1 := ⟨i - 1, by omega⟩
  have e1 : (((i + 1 : Nat) : Int) - 1) = (i : Int) := by omega
  rw [e1]
  obtain ⟨s1, s2, s3⟩ := sd_step (A := A) (i := i) hd hd2
  have hR : sRm A d (i + 1) < 4294967296 := Nat.lt_trans (Nat.mod_lt _ hd) hd2
  have hwd : IntKind.u64.wrap ((d : Nat) : Int) = ((d : Nat) : Int) := wr64 (by omega)
  have hwa : IntKind.u64.wrap ((dg A i : Nat) : Int) = ((dg A i : Nat) : Int) := wr64 (by have := dg_lt A i; omega)
  have ho := or64 hR (dg_lt A i)
  have hq : IntKind.u64.wrap ((((sRm A d (i + 1) * 4294967296 + dg A i : Nat) : Int)).tdiv ((d : Nat) : Int)) = ((dg (A / d) i : Nat) : Int) := by
    rw [Int.tdiv_eq_ediv_of_nonneg (by omega), ← Int.natCast_ediv]
    rw [show sRm A d (i + 1) = A / 4294967296 ^ (i + 1) % d from rfl, s1]
    exact wr64 (by omega)
  have hm : (((sRm A d (i + 1) * 4294967296 + dg A i : Nat) : Int)).tmod ((d : Nat) : Int) = ((sRm A d i : Nat) : Int) := by
    rw [Int.tmod_eq_emod_of_nonneg (by omega), ← Int.natCast_emod]
    rw [show sRm A d (i + 1) = A / 4294967296 ^ (i + 1) % d from rfl, s2]
    rfl
  have h32 : IntKind.u32.wrap ((dg (A / d) i : Nat) : Int) = ((dg (A / d) i : Nat) : Int) := wr32_id s3
  conv => whnf
  repeat' (first
    | (refine NilG.mk fun bn hbn hbx => ?_; conv => whnf)
    | (refine Both.mk ?_ ?_ <;> conv => whnf)
    | ((first | (refine MkG.box 1 rfl rfl rfl (by decide) ?_) | (refine MkG.box 2 rfl rfl rfl (by decide) ?_) | (refine MkG.box 3 rfl rfl rfl (by decide) ?_) | (refine MkG.row ?_)); conv => whnf)
    | (refine LitG.row ?_; conv => whnf)
    | exact trivial
    | (refine Br.mk (fun hb => ?_) (fun hb => ?_) <;> (first | (exfalso; revert hb; decide) | ((try simp only [BL] at hb) <;> (try simp only [DL] at hb) <;> (first | (exfalso; omega) | (conv => whnf)))))
    | (refine And.intro ?_ ?_; (focus (first | exact id | exact rfl | exact trivial | (intro hg; first | exact hg | exact rfl | (simp; done) | (simp at hg ⊢; assumption)) | omega | decide | exact is2_c _ _ _ | exact is1_c _ _ | exact isS_c _ _ | exact isB_c _ _ | exact Nat.le_refl _ | assumption | exact mulLe (by decide) (by omega) | exact mulLe2 (by decide) (by omega) (by omega) | (intros; simp only [BL] at *; omega) | (intros; (try simp only [BL] at *); (try simp only [DL] at *); omega) | (intros; simp only [BL] at *; rw [wr_id (by omega) (by omega)]; omega) | (intro h1 h2; exact Bool.and_eq_true_iff.2 ⟨h1, h2⟩) | (intros; simp_all; done))); conv => whnf)
    | (refine Or.inr (And.intro rfl ?_); first | (refine congrArg intV ?_) | (refine congrArg boolV ?_) | (refine tupII ?_ ?_) | (refine tupIII ?_ ?_ ?_) | (refine tupU ?_ ?_ ?_ ?_ ?_) | exact rfl))
  simp only [Int.toNat_natCast, hwd, hwa, ho, hq, hm, h32]
  refine ⟨i, [?_], by omega, by omega, ?_⟩
  rotate_left 1
  refine Sub.of ?_ ?_ ?_
  repeat' (first | (refine And.intro ?_ ?_) | exact trivial | exact fun _ _ _ => hsc _ _ | (exact congrArg intV (by first | with_reducible rfl | with_reducible assumption)) | exact (rfl : AV.idsLt _ _ = true) | exact (rfl : _ = AV.ren _ (.own _)) | exact (rfl : _ = AV.ren _ (.fn _ _)) | exact (rfl : _ = AV.ren _ (.gh _)) | (exact congrArg intV (by assumption)) | (refine congrArg intV ((wr_id (by omega) (by omega)).trans (by omega))) | exact rfl | (simp only [NLc]; first | exact rfl | done) | exact all0 | exact fun h => Bool.noConfusion h | exact fun _ _ _ _ => rfl | omega)
  refine row_set1 ?_ fun a ha hne => ?_
  · show _ = L.v (Value.int .u32 (if i < i then 0 else _))
    rw [if_neg (by omega)]
  · show L.v (Value.int .u32 (if a < i + 1 then 0 else _)) = L.v (Value.int .u32 (if a < i then 0 else _))
    by_cases h : a < i
    · rw [if_pos h, if_pos (by omega)]
    · rw [if_neg h, if_neg (by omega)]

/-- addWords: what is carried into word i -/
def aCy (A B i : Nat) : Nat := (lw A i + lw B i) / 4294967296 ^ i
def adF (A B i : Nat) : Nat → Nat → L := fun k _ => .v (.int .u32 (if k < i then ((dg (A + B) k : Nat) : Int) else 0))
theorem ad_step (A B i : Nat) : (aCy A B i + dg A i + dg B i) % 4294967296 = dg (A + B) i ∧ (aCy A B i + dg A i + dg B i) / 4294967296 = aCy A B (i + 1) ∧ aCy A B i ≤ 1 := by
  have hp := pw_pos i
  have h1 : (lw A (i + 1) + lw B (i + 1)) / 4294967296 ^ i = aCy A B i + dg A i + dg B i := by
    rw [lw_succ, lw_succ]
    unfold aCy
    rw [show lw A i + dg A i * 4294967296 ^ i + (lw B i + dg B i * 4294967296 ^ i) = lw A i + lw B i + (dg A i + dg B i) * 4294967296 ^ i by rw [Nat.add_mul]; omega, Nat.add_mul_div_right _ _ hp]
    omega
  refine ⟨?_, ?_, ?_⟩
  · rw [← h1]
    unfold dg lw
    rw [← Nat.mod_mul_right_div_self, ← Nat.mod_mul_right_div_self, ← pw_succ, ← Nat.add_mod]
  · rw [← h1, Nat.div_div_eq_div_mul, ← pw_succ]
    rfl
  · unfold aCy
    have h2 := lw_lt A i
    have h3 := lw_lt B i
    have : (lw A i + lw B i) / 4294967296 ^ i < 2 := by
      rw [Nat.div_lt_iff_lt_mul hp]
      omega
    omega
set_option maxHeartbeats 4000000 in
/-- words, looked at -/
def wdK (n A : Nat) (obs : List OB) (r : AV) : Prop := obs = [] ∧ ∃ f, r = .c (.sl 1 n f) ∧ Sh n 1 f (cW A)
theorem wdK_fn {f : FuncId} {xs : List AV} {n A : Nat} (h : Fn Tryd.prog f xs (wdK n A)) : Fn1 Tryd.prog f xs (wdV n A) := by
  refine Fn.res h ?_
  rintro obs r ⟨rfl, f, rfl, hf⟩
  exact ⟨_, ⟨rfl, rfl⟩, Le1.sl hf⟩
set_option maxHeartbeats 4000000 in
theorem lgAddW0 (A B : Nat) (hA : wl A ≤ 1000) (hB : wl B ≤ 1000) : Fn Tryd.prog 107 [wdN A, wdN B] (wdK (max (wl A) (wl B) + 1) (A + B)) := by
  refine fn_of_wpx (O := lex) tab_ok (Γ := fun _ => none) (fun _ _ h => by cases h) mixed Tryd.func107 (by kernel_rfl) rfl rfl rfl (by simp [Tryd.ntmps107]) (by kernel_rfl) ?_
  conv => whnf
  repeat' (first
    | (refine NilG.mk fun bn hbn hbx => ?_; conv => whnf)
    | (refine Both.mk ?_ ?_ <;> conv => whnf)
    | ((first | (refine MkG.box 1 rfl rfl rfl (by decide) ?_) | (refine MkG.box 2 rfl rfl rfl (by decide) ?_) | (refine MkG.box 3 rfl rfl rfl (by decide) ?_) | (refine MkG.row ?_)); conv => whnf)
    | (refine LitG.row ?_; conv => whnf)
    | exact trivial
    | (refine Br.mk (fun hb => ?_) (fun hb => ?_) <;> (first | (exfalso; revert hb; decide) | ((try simp only [BL] at hb) <;> (try simp only [DL] at hb) <;> (first | (exfalso; omega) | (conv => whnf)))))
    | (refine And.intro ?_ ?_; (focus (first | exact id | exact rfl | exact trivial | (intro hg; first | exact hg | exact rfl | (simp; done) | (simp at hg ⊢; assumption)) | omega | decide | exact is2_c _ _ _ | exact is1_c _ _ | exact isS_c _ _ | exact isB_c _ _ | exact Nat.le_refl _ | assumption | exact mulLe (by decide) (by omega) | exact mulLe2 (by decide) (by omega) (by omega) | (intros; simp only [BL] at *; omega) | (intros; (try simp only [BL] at *); (try simp only [DL] at *); omega) | (intros; simp only [BL] at *; rw [wr_id (by omega) (by omega)]; omega) | (intro h1 h2; exact Bool.and_eq_true_iff.2 ⟨h1, h2⟩) | (intros; simp_all; done))); conv => whnf)
    | (refine Or.inr (And.intro rfl ?_); first | (refine congrArg intV ?_) | (refine congrArg boolV ?_) | (refine tupII ?_ ?_) | (refine tupIII ?_ ?_ ?_) | (refine tupU ?_ ?_ ?_ ?_ ?_) | exact rfl))
  all_goals
    first
    | (have hmx : max (wl A) (wl B) + 1 = wl B + 1 := by omega
       rw [hmx, Nat.add_comm A B]
       have hle : wl A ≤ wl B := by omega
       clear hmx hb
       generalize A = Y at *
       generalize B = X at *)
    | (have hmx : max (wl A) (wl B) + 1 = wl A + 1 := by omega
       rw [hmx]
       have hle : wl B ≤ wl A := by omega
       clear hmx hb
       generalize A = X at *
       generalize B = Y at *)
    have hX : wl X ≤ 1000 := by assumption
    have e1 := succ_i (wl X) (by omega)
    rw [e1]
    have e2 : (0 : Int) = ((aCy X Y 0 : Nat) : Int) := by simp [aCy, lw_zero]
    have hs : (0 : Int) ≤ ((wl X + 1 : Nat) : Int) ∧ ((wl X + 1 : Nat) : Int) ≤ ((wl X + 1 : Nat) : Int) := by omega
    conv => whnf
    repeat' (first
      | (refine NilG.mk fun bn hbn hbx => ?_; conv => whnf)
      | (refine Both.mk ?_ ?_ <;> conv => whnf)
      | ((first | (refine MkG.box 1 rfl rfl rfl (by decide) ?_) | (refine MkG.box 2 rfl rfl rfl (by decide) ?_) | (refine MkG.box 3 rfl rfl rfl (by decide) ?_) | (refine MkG.row ?_)); conv => whnf)
      | (refine LitG.row ?_; conv => whnf)
      | exact trivial
      | (refine Br.mk (fun hb => ?_) (fun hb => ?_) <;> (first | (exfalso; revert hb; decide) | ((try simp only [BL] at hb) <;> (try simp only [DL] at hb) <;> (first | (exfalso; omega) | (conv => whnf)))))
      | (refine And.intro ?_ ?_; (focus (first | exact id | exact rfl | exact trivial | (intro hg; first | exact hg | exact rfl | (simp; done) | (simp at hg ⊢; assumption)) | omega | decide | exact is2_c _ _ _ | exact is1_c _ _ | exact isS_c _ _ | exact isB_c _ _ | exact Nat.le_refl _ | assumption | exact mulLe (by decide) (by omega) | exact mulLe2 (by decide) (by omega) (by omega) | (intros; simp only [BL] at *; omega) | (intros; (try simp only [BL] at *); (try simp only [DL] at *); omega) | (intros; simp only [BL] at *; rw [wr_id (by omega) (by omega)]; omega) | (intro h1 h2; exact Bool.and_eq_true_iff.2 ⟨h1, h2⟩) | (intros; simp_all; done))); conv => whnf)
      | (refine Or.inr (And.intro rfl ?_); first | (refine congrArg intV ?_) | (refine congrArg boolV ?_) | (refine tupII ?_ ?_) | (refine tupIII ?_ ?_ ?_) | (refine tupU ?_ ?_ ?_ ?_ ?_) | exact rfl))
    refine sem_loop tab_ok gamN1_ok mixed (by kernel_rfl) (O := lex) (fun i : Nat => ⟨[(0, wdN X), (1, wdN Y), (5, .own 0), (6, u64V ((aCy X Y i : Nat) : Int)), (20, intV (wl X)), (21, intV i)], [.row 137 1 (wl X + 1) false (adF X Y i)]⟩) (fun i => i ≤ wl X) (fun i => wl X - i) ⟨0, [?_], Nat.zero_le _, ?_⟩ fun i hi => ?_
    rotate_left 1
    · refine Sub.of ?_ ?_ ?_
      repeat' (first | (refine And.intro ?_ ?_) | exact trivial | exact fun _ _ _ => hsc _ _ | (exact congrArg intV (by first | with_reducible rfl | with_reducible assumption)) | exact (rfl : AV.idsLt _ _ = true) | exact (rfl : _ = AV.ren _ (.own _)) | exact (rfl : _ = AV.ren _ (.fn _ _)) | exact (rfl : _ = AV.ren _ (.gh _)) | (exact congrArg intV (by assumption)) | (refine congrArg intV ((wr_id (by omega) (by omega)).trans (by omega))) | exact rfl | (simp only [NLc]; first | exact rfl | done) | exact all0 | exact fun h => Bool.noConfusion h | exact fun _ _ _ _ => rfl | omega)
      · first
        | exact (congrArg (fun z : Int => u64V z) e2 : _)
        | (intro a ha b hb
           have hb : b < 1 := hb
           obtain rfl : b = 0 := by omega
           show L.v (Value.int .u32 0) = L.v (Value.int .u32 (if a < 0 then _ else 0))
           rw [if_neg (by omega)])
      first
        | exact (congrArg (fun z : Int => u64V z) e2 : _)
        | (intro a ha b hb
           have hb : b < 1 := hb
           obtain rfl : b = 0 := by omega
           show L.v (Value.int .u32 0) = L.v (Value.int .u32 (if a < 0 then _ else 0))
           rw [if_neg (by omega)])
    obtain ⟨s1, s2, s3⟩ := ad_step X Y i
    have d1 := dg_lt X i
    have d2 := dg_lt Y i
    have w1 : IntKind.u64.wrap ((dg X i : Nat) : Int) = ((dg X i : Nat) : Int) := wr64 (by omega)
    have w2 : IntKind.u64.wrap ((dg Y i : Nat) : Int) = ((dg Y i : Nat) : Int) := wr64 (by omega)
    have w3 : IntKind.u64.wrap (((aCy X Y i : Nat) : Int) + ((dg X i : Nat) : Int)) = ((aCy X Y i + dg X i : Nat) : Int) := by rw [← Int.natCast_add]; exact wr64 (by omega)
    have w4 : IntKind.u64.wrap (((aCy X Y i + dg X i : Nat) : Int) + ((dg Y i : Nat) : Int)) = ((aCy X Y i + dg X i + dg Y i : Nat) : Int) := by rw [← Int.natCast_add]; exact wr64 (by omega)
    have w5 : IntKind.u32.wrap ((aCy X Y i + dg X i + dg Y i : Nat) : Int) = ((dg (X + Y) i : Nat) : Int) := by rw [wr32, s1]
    have w6 : shrI .u64 ((aCy X Y i + dg X i + dg Y i : Nat) : Int) 32 = ((aCy X Y (i + 1) : Nat) : Int) := by rw [shr64, s2]
    have hrow : ∀ a, a < wl X + 1 → a ≠ i → adF X Y i a 0 = adF X Y (i + 1) a 0 := fun a ha hne => by
      show L.v (Value.int .u32 (if a < i then _ else 0)) = L.v (Value.int .u32 (if a < i + 1 then _ else 0))
      by_cases h : a < i
      · rw [if_pos h, if_pos (by omega)]
      · rw [if_neg h, if_neg (by omega)]
    have hnew : L.v (Value.int .u32 ((dg (X + Y) i : Nat) : Int)) = adF X Y (i + 1) i 0 := by
      show _ = L.v (Value.int .u32 (if i < i + 1 then _ else 0))
      rw [if_pos (by omega)]
    conv => whnf
    repeat' (first
      | (refine NilG.mk fun bn hbn hbx => ?_; conv => whnf)
      | (refine Both.mk ?_ ?_ <;> conv => whnf)
      | ((first | (refine MkG.box 1 rfl rfl rfl (by decide) ?_) | (refine MkG.box 2 rfl rfl rfl (by decide) ?_) | (refine MkG.box 3 rfl rfl rfl (by decide) ?_) | (refine MkG.row ?_)); conv => whnf)
      | (refine LitG.row ?_; conv => whnf)
      | exact trivial
      | (refine Br.mk (fun hb => ?_) (fun hb => ?_) <;> (first | (exfalso; revert hb; decide) | ((try simp only [BL] at hb) <;> (try simp only [DL] at hb) <;> (first | (exfalso; omega) | (conv => whnf)))))
      | (refine And.intro ?_ ?_; (focus (first | exact id | exact rfl | exact trivial | (intro hg; first | exact hg | exact rfl | (simp; done) | (simp at hg ⊢; assumption)) | omega | decide | exact is2_c _ _ _ | exact is1_c _ _ | exact isS_c _ _ | exact isB_c _ _ | exact Nat.le_refl _ | assumption | exact mulLe (by decide) (by omega) | exact mulLe2 (by decide) (by omega) (by omega) | (intros; simp only [BL] at *; omega) | (intros; (try simp only [BL] at *); (try simp only [DL] at *); omega) | (intros; simp only [BL] at *; rw [wr_id (by omega) (by omega)]; omega) | (intro h1 h2; exact Bool.and_eq_true_iff.2 ⟨h1, h2⟩) | (intros; simp_all; done))); conv => whnf)
      | (refine Or.inr (And.intro rfl ?_); first | (refine congrArg intV ?_) | (refine congrArg boolV ?_) | (refine tupII ?_ ?_) | (refine tupIII ?_ ?_ ?_) | (refine tupU ?_ ?_ ?_ ?_ ?_) | exact rfl))
    · simp only [Int.toNat_natCast, w1, w2, w3, w4, w5, w6]
      refine ⟨i + 1, [?_], by omega, by omega, ?_⟩
      rotate_left 1
      refine Sub.of ?_ ?_ ?_
      repeat' (first | (refine And.intro ?_ ?_) | exact trivial | exact fun _ _ _ => hsc _ _ | (exact congrArg intV (by first | with_reducible rfl | with_reducible assumption)) | exact (rfl : AV.idsLt _ _ = true) | exact (rfl : _ = AV.ren _ (.own _)) | exact (rfl : _ = AV.ren _ (.fn _ _)) | exact (rfl : _ = AV.ren _ (.gh _)) | (exact congrArg intV (by assumption)) | (refine congrArg intV ((wr_id (by omega) (by omega)).trans (by omega))) | exact rfl | (simp only [NLc]; first | exact rfl | done) | exact all0 | exact fun h => Bool.noConfusion h | exact fun _ _ _ _ => rfl | omega)
      exact row_set1 hnew hrow
    · have hz : dg Y i = 0 := dg_hi (wl_le.1 (by omega))
      rw [hz, Nat.add_zero] at w5 w6
      simp only [Int.toNat_natCast, w1, w3, w5, w6]
      refine ⟨i + 1, [?_], by omega, by omega, ?_⟩
      rotate_left 1
      refine Sub.of ?_ ?_ ?_
      repeat' (first | (refine And.intro ?_ ?_) | exact trivial | exact fun _ _ _ => hsc _ _ | (exact congrArg intV (by first | with_reducible rfl | with_reducible assumption)) | exact (rfl : AV.idsLt _ _ = true) | exact (rfl : _ = AV.ren _ (.own _)) | exact (rfl : _ = AV.ren _ (.fn _ _)) | exact (rfl : _ = AV.ren _ (.gh _)) | (exact congrArg intV (by assumption)) | (refine congrArg intV ((wr_id (by omega) (by omega)).trans (by omega))) | exact rfl | (simp only [NLc]; first | exact rfl | done) | exact all0 | exact fun h => Bool.noConfusion h | exact fun _ _ _ _ => rfl | omega)
      exact row_set1 hnew hrow
    · obtain rfl : i = wl X := by omega
      have w7 : IntKind.u32.wrap ((aCy X Y (wl X) : Nat) : Int) = ((dg (X + Y) (wl X) : Nat) : Int) := by
        rw [wr32_id (by omega), ← s1, dg_hi (wl_le.1 (Nat.le_refl (wl X))), dg_hi (wl_le.1 hle), Nat.add_zero]
        omega
      simp only [Int.toNat_natCast, w7]
      refine .inr ⟨rfl, _, rfl, fun a ha b hb => ?_⟩
      refine (row_set1 (n := wl X + 1) (g := adF X Y (wl X + 1)) hnew hrow a ha b hb).trans ?_
      show L.v (Value.int .u32 (if a < wl X + 1 then _ else 0)) = L.v (Value.int .u32 _)
      rw [if_pos ha]
theorem lgAddW (A B : Nat) (hA : wl A ≤ 1000) (hB : wl B ≤ 1000) : Fn1 Tryd.prog 107 [wdN A, wdN B] (wdV (max (wl A) (wl B) + 1) (A + B)) := wdK_fn (lgAddW0 A B hA hB)
end Go.Proofs.YtjfnhehjhicnoaaDoor
