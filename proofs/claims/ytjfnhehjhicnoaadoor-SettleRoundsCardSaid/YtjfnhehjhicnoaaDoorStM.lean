/-
  SettleRounds: the law, walked.
-/
import Derived.Test.YtjfnhehjhicnoaaDoorStR
namespace Go.Proofs.YtjfnhehjhicnoaaDoor
open Go.RowKit

set_option maxRecDepth 100000 in
theorem stRnd (m d : Nat) (x : Nat → Int) (h : okX m d x) : FnT Tryd.prog pwG pwC 32 [.c (.sl 1 m (cTx (amN x d) (amD x d)))] (stK m d x) := by
  refine fnT_of_wpx (O := lex) tab_ok gamLg_ok mixed Tryd.func32 (by kernel_rfl) rfl rfl rfl (by simp [Tryd.ntmps32]) (by kernel_rfl) ?_
  have hR : okR m (amN x d) (amD x d) := fun k hk => by
    obtain ⟨hm, hd0, hd, hx⟩ := h
    have h1 := Nat.le_trans (redN_le (n := x k) hd0) (hx k hk)
    have h2 := redD_le (x k) d
    exact ⟨Nat.lt_of_le_of_lt h1 (by decide), redD_pos hd0, Nat.lt_of_le_of_lt (Nat.le_trans h2 hd) (by decide), red_cop hd0⟩
  have r1 := stChkA m (amN x d) (amD x d) (Nat.le_trans h.1 (by decide)) hR
  have r2 := stParA m (amN x d) (amD x d) (Nat.le_trans h.1 (by decide)) hR
  have r3 := stRound m d x h
  have hm := h.1
  conv => whnf
  repeat' (first
    | (refine NilG.mk fun bn hbn hbx => ?_; conv => whnf)
    | (refine Both.mk ?_ ?_ <;> conv => whnf)
    | ((first | (refine MkG.box 1 rfl rfl rfl (by decide) ?_) | (refine MkG.box 2 rfl rfl rfl (by decide) ?_) | (refine MkG.box 3 rfl rfl rfl (by decide) ?_) | (refine MkG.row ?_)); conv => whnf)
    | (refine LitG.row ?_; conv => whnf)
    | exact trivial
    | (refine Br.mk (fun hb => ?_) (fun hb => ?_) <;> (first | (exfalso; revert hb; decide) | ((try simp only [BL] at hb) <;> (try simp only [DL] at hb) <;> (first | (exfalso; omega) | (conv => whnf)))))
    | (refine And.intro ?_ ?_; (focus (first | exact id | exact rfl | exact trivial | (intro hg; first | exact hg | exact rfl | (simp; done) | (simp at hg ⊢; assumption)) | omega | decide | exact is2_c _ _ _ | exact is1_c _ _ | exact isS_c _ _ | exact isB_c _ _ | exact Nat.le_refl _ | assumption | exact mulLe (by decide) (by omega) | exact mulLe2 (by decide) (by omega) (by omega) | (intros; simp only [BL] at *; omega) | (intros; (try simp only [BL] at *); (try simp only [DL] at *); omega) | (intros; simp only [BL] at *; rw [wr_id (by omega) (by omega)]; omega) | (intro h1 h2; exact Bool.and_eq_true_iff.2 ⟨h1, h2⟩) | (intros; simp_all; done))); conv => whnf)
    | (refine Or.inr (And.intro rfl ?_); first | (refine congrArg intV ?_) | (refine congrArg boolV ?_) | (refine tupII ?_ ?_) | (refine tupIII ?_ ?_ ?_) | (refine tupU ?_ ?_ ?_ ?_ ?_) | exact rfl))
  refine CallG.tb 1000000 rfl (FnT.mono r1 ?_)
  rintro obs r ⟨rfl, rfl⟩
  conv => whnf
  repeat' (first
    | (refine NilG.mk fun bn hbn hbx => ?_; conv => whnf)
    | (refine Both.mk ?_ ?_ <;> conv => whnf)
    | ((first | (refine MkG.box 1 rfl rfl rfl (by decide) ?_) | (refine MkG.box 2 rfl rfl rfl (by decide) ?_) | (refine MkG.box 3 rfl rfl rfl (by decide) ?_) | (refine MkG.row ?_)); conv => whnf)
    | (refine LitG.row ?_; conv => whnf)
    | exact trivial
    | (refine Br.mk (fun hb => ?_) (fun hb => ?_) <;> (first | (exfalso; revert hb; decide) | ((try simp only [BL] at hb) <;> (try simp only [DL] at hb) <;> (first | (exfalso; omega) | (conv => whnf)))))
    | (refine And.intro ?_ ?_; (focus (first | exact id | exact rfl | exact trivial | (intro hg; first | exact hg | exact rfl | (simp; done) | (simp at hg ⊢; assumption)) | omega | decide | exact is2_c _ _ _ | exact is1_c _ _ | exact isS_c _ _ | exact isB_c _ _ | exact Nat.le_refl _ | assumption | exact mulLe (by decide) (by omega) | exact mulLe2 (by decide) (by omega) (by omega) | (intros; simp only [BL] at *; omega) | (intros; (try simp only [BL] at *); (try simp only [DL] at *); omega) | (intros; simp only [BL] at *; rw [wr_id (by omega) (by omega)]; omega) | (intro h1 h2; exact Bool.and_eq_true_iff.2 ⟨h1, h2⟩) | (intros; simp_all; done))); conv => whnf)
    | (refine Or.inr (And.intro rfl ?_); first | (refine congrArg intV ?_) | (refine congrArg boolV ?_) | (refine tupII ?_ ?_) | (refine tupIII ?_ ?_ ?_) | (refine tupU ?_ ?_ ?_ ?_ ?_) | exact rfl))
  refine CallG.mk (Fn.mono r2 ?_)
  rintro obs r ⟨rfl, rfl⟩
  conv => whnf
  repeat' (first
    | (refine NilG.mk fun bn hbn hbx => ?_; conv => whnf)
    | (refine Both.mk ?_ ?_ <;> conv => whnf)
    | ((first | (refine MkG.box 1 rfl rfl rfl (by decide) ?_) | (refine MkG.box 2 rfl rfl rfl (by decide) ?_) | (refine MkG.box 3 rfl rfl rfl (by decide) ?_) | (refine MkG.row ?_)); conv => whnf)
    | (refine LitG.row ?_; conv => whnf)
    | exact trivial
    | (refine Br.mk (fun hb => ?_) (fun hb => ?_) <;> (first | (exfalso; revert hb; decide) | ((try simp only [BL] at hb) <;> (try simp only [DL] at hb) <;> (first | (exfalso; omega) | (conv => whnf)))))
    | (refine And.intro ?_ ?_; (focus (first | exact id | exact rfl | exact trivial | (intro hg; first | exact hg | exact rfl | (simp; done) | (simp at hg ⊢; assumption)) | omega | decide | exact is2_c _ _ _ | exact is1_c _ _ | exact isS_c _ _ | exact isB_c _ _ | exact Nat.le_refl _ | assumption | exact mulLe (by decide) (by omega) | exact mulLe2 (by decide) (by omega) (by omega) | (intros; simp only [BL] at *; omega) | (intros; (try simp only [BL] at *); (try simp only [DL] at *); omega) | (intros; simp only [BL] at *; rw [wr_id (by omega) (by omega)]; omega) | (intro h1 h2; exact Bool.and_eq_true_iff.2 ⟨h1, h2⟩) | (intros; simp_all; done))); conv => whnf)
    | (refine Or.inr (And.intro rfl ?_); first | (refine congrArg intV ?_) | (refine congrArg boolV ?_) | (refine tupII ?_ ?_) | (refine tupIII ?_ ?_ ?_) | (refine tupU ?_ ?_ ?_ ?_ ?_) | exact rfl))
  refine CallG.mk (Fn.mono r3 ?_)
  rintro obs r ⟨rfl, ⟨h1, f, rfl, hf⟩ | ⟨h1, rfl⟩⟩
  · conv => whnf
    repeat' (first
      | (refine NilG.mk fun bn hbn hbx => ?_; conv => whnf)
      | (refine Both.mk ?_ ?_ <;> conv => whnf)
      | ((first | (refine MkG.box 1 rfl rfl rfl (by decide) ?_) | (refine MkG.box 2 rfl rfl rfl (by decide) ?_) | (refine MkG.box 3 rfl rfl rfl (by decide) ?_) | (refine MkG.row ?_)); conv => whnf)
      | (refine LitG.row ?_; conv => whnf)
      | exact trivial
      | (refine Br.mk (fun hb => ?_) (fun hb => ?_) <;> (first | (exfalso; revert hb; decide) | ((try simp only [BL] at hb) <;> (try simp only [DL] at hb) <;> (first | (exfalso; omega) | (conv => whnf)))))
      | (refine And.intro ?_ ?_; (focus (first | exact id | exact rfl | exact trivial | (intro hg; first | exact hg | exact rfl | (simp; done) | (simp at hg ⊢; assumption)) | omega | decide | exact is2_c _ _ _ | exact is1_c _ _ | exact isS_c _ _ | exact isB_c _ _ | exact Nat.le_refl _ | assumption | exact mulLe (by decide) (by omega) | exact mulLe2 (by decide) (by omega) (by omega) | (intros; simp only [BL] at *; omega) | (intros; (try simp only [BL] at *); (try simp only [DL] at *); omega) | (intros; simp only [BL] at *; rw [wr_id (by omega) (by omega)]; omega) | (intro h1 h2; exact Bool.and_eq_true_iff.2 ⟨h1, h2⟩) | (intros; simp_all; done))); conv => whnf)
      | (refine Or.inr (And.intro rfl ?_); first | (refine congrArg intV ?_) | (refine congrArg boolV ?_) | (refine tupII ?_ ?_) | (refine tupIII ?_ ?_ ?_) | (refine tupU ?_ ?_ ?_ ?_ ?_) | exact rfl))
    exact .inr ⟨rfl, .inl ⟨h1, f, rfl, hf⟩⟩
  · conv => whnf
    repeat' (first
      | (refine NilG.mk fun bn hbn hbx => ?_; conv => whnf)
      | (refine Both.mk ?_ ?_ <;> conv => whnf)
      | ((first | (refine MkG.box 1 rfl rfl rfl (by decide) ?_) | (refine MkG.box 2 rfl rfl rfl (by decide) ?_) | (refine MkG.box 3 rfl rfl rfl (by decide) ?_) | (refine MkG.row ?_)); conv => whnf)
      | (refine LitG.row ?_; conv => whnf)
      | exact trivial
      | (refine Br.mk (fun hb => ?_) (fun hb => ?_) <;> (first | (exfalso; revert hb; decide) | ((try simp only [BL] at hb) <;> (try simp only [DL] at hb) <;> (first | (exfalso; omega) | (conv => whnf)))))
      | (refine And.intro ?_ ?_; (focus (first | exact id | exact rfl | exact trivial | (intro hg; first | exact hg | exact rfl | (simp; done) | (simp at hg ⊢; assumption)) | omega | decide | exact is2_c _ _ _ | exact is1_c _ _ | exact isS_c _ _ | exact isB_c _ _ | exact Nat.le_refl _ | assumption | exact mulLe (by decide) (by omega) | exact mulLe2 (by decide) (by omega) (by omega) | (intros; simp only [BL] at *; omega) | (intros; (try simp only [BL] at *); (try simp only [DL] at *); omega) | (intros; simp only [BL] at *; rw [wr_id (by omega) (by omega)]; omega) | (intro h1 h2; exact Bool.and_eq_true_iff.2 ⟨h1, h2⟩) | (intros; simp_all; done))); conv => whnf)
      | (refine Or.inr (And.intro rfl ?_); first | (refine congrArg intV ?_) | (refine congrArg boolV ?_) | (refine tupII ?_ ?_) | (refine tupIII ?_ ?_ ?_) | (refine tupU ?_ ?_ ?_ ?_ ?_) | exact rfl))
    exact .inr ⟨rfl, .inr ⟨h1, rfl⟩⟩
theorem stRndY (m d : Nat) (x : Nat → Int) (h : okX m d x) (hd : d ∣ rSum x d m) : FnT Tryd.prog pwG pwC 32 [.c (.sl 1 m (cTx (amN x d) (amD x d)))] (fun obs r => obs = [] ∧ r = .tup [.c (.sl 1 m (c1 (otS x d m (rSum x d m / d)))), intV 0]) := by
  refine FnT.res (stRnd m d x h) ?_
  rintro obs r ⟨rfl, ⟨_, f, rfl, hf⟩ | ⟨h1, rfl⟩⟩
  · exact ⟨_, ⟨rfl, rfl⟩, Le1.tup (Le.cons (Le1.sl hf) (Le.cons (Le1.refl _) Le.nil))⟩
  · exact absurd hd h1
theorem stRndN (m d : Nat) (x : Nat → Int) (h : okX m d x) (hd : ¬ d ∣ rSum x d m) : FnT Tryd.prog pwG pwC 32 [.c (.sl 1 m (cTx (amN x d) (amD x d)))] (fun obs r => obs = [] ∧ r = .tup [nilW, intV 14]) := by
  refine FnT.mono (stRnd m d x h) ?_
  rintro obs r ⟨rfl, ⟨h1, f, rfl, hf⟩ | ⟨h1, rfl⟩⟩
  · exact absurd h1 hd
  · exact ⟨rfl, rfl⟩
/-- the known example: 3/6, 2/6, 1/6 -/
def exX : Nat → Int := fun k => if k = 0 then 3 else if k = 1 then 2 else 1
theorem ex_okX : okX 3 6 exX := ⟨by decide, by decide, by decide, by decide⟩
theorem ex_tx0 : rT (amN exX 6 0) (amD exX 6 0) = ⟨#[49, 47, 50]⟩ := by
  have h1 : amN exX 6 0 = ((1 : Nat) : Int) := by decide +kernel
  have h2 : amD exX 6 0 = 2 := by decide +kernel
  rw [h1, h2]
  unfold rT
  rw [if_neg (by decide), sI_nat, decB_lt (by decide), decB_lt (by decide)]
  rfl
theorem ex_tx1 : rT (amN exX 6 1) (amD exX 6 1) = ⟨#[49, 47, 51]⟩ := by
  have h1 : amN exX 6 1 = ((1 : Nat) : Int) := by decide +kernel
  have h2 : amD exX 6 1 = 3 := by decide +kernel
  rw [h1, h2]
  unfold rT
  rw [if_neg (by decide), sI_nat, decB_lt (by decide), decB_lt (by decide)]
  rfl
theorem ex_tx2 : rT (amN exX 6 2) (amD exX 6 2) = ⟨#[49, 47, 54]⟩ := by
  have h1 : amN exX 6 2 = ((1 : Nat) : Int) := by decide +kernel
  have h2 : amD exX 6 2 = 6 := by decide +kernel
  rw [h1, h2]
  unfold rT
  rw [if_neg (by decide), sI_nat, decB_lt (by decide), decB_lt (by decide)]
  rfl
theorem ex_out : ∀ i, i < 3 → otS exX 6 3 1 i = if i = 0 then 1 else 0 := by decide +kernel
theorem exRnd : FnT Tryd.prog pwG pwC 32 [.c (.sl 1 3 (cTx (amN exX 6) (amD exX 6)))] (fun obs r => obs = [] ∧ r = .tup [.c (.sl 1 3 (c1 fun i => if i = 0 then 1 else 0)), intV 0]) := by
  refine FnT.res (stRnd 3 6 exX ex_okX) ?_
  have h6 : 6 ∣ rSum exX 6 3 := by decide +kernel
  have e1 : rSum exX 6 3 / 6 = 1 := by decide +kernel
  rintro obs r ⟨rfl, ⟨_, f, rfl, hf⟩ | ⟨h1, rfl⟩⟩
  · refine ⟨_, ⟨rfl, rfl⟩, Le1.tup (Le.cons (Le1.sl fun k hk j hj => ?_) (Le.cons (Le1.refl _) Le.nil))⟩
    refine (hf k hk j hj).trans ?_
    rw [e1]
    obtain rfl : j = 0 := by omega
    exact congrArg iL (ex_out k hk)
  · exact absurd h6 h1
/-- what the law's closure has caught -/
abbrev ccD (d : Nat) : Nat → L := fun k => ([L.v (.int .i64 (d : Int))][0 + k]?).getD .un
theorem stRest (y : Int) (d : Nat) (hd0 : 0 < d) (hd : d ≤ 12) : Fn1 Tryd.prog 35 [intV y, .xp 1 (ccD d)] (intV (lft y d : Int)) := by
  refine fn_of_wpx (O := lex) tab_ok gamLg_ok mixed Tryd.func35 (by kernel_rfl) rfl rfl rfl (by simp [Tryd.ntmps35]) (by kernel_rfl) ?_
  have b1 := Int.tmod_lt_of_pos y (show (0 : Int) < d by omega)
  have b2 := Int.lt_tmod_of_pos y (show (0 : Int) < d by omega)
  have e2 : (y.tmod (d : Int) + (d : Int)).tmod (d : Int) = (lft y d : Int) := by
    rw [lft_eq hd0, Int.tmod_eq_emod_of_nonneg (by omega), Int.add_emod_right]
    have h1 := Int.mul_tdiv_add_tmod y d
    conv => rhs; rw [← h1]
    rw [Int.mul_add_emod_self_left]
  have e1 : IntKind.i64.wrap (y.tmod (d : Int) + (d : Int)) = y.tmod (d : Int) + (d : Int) := wr_id (by omega) (by omega)
  conv => whnf
  repeat' (first
    | (refine NilG.mk fun bn hbn hbx => ?_; conv => whnf)
    | (refine Both.mk ?_ ?_ <;> conv => whnf)
    | ((first | (refine MkG.box 1 rfl rfl rfl (by decide) ?_) | (refine MkG.box 2 rfl rfl rfl (by decide) ?_) | (refine MkG.box 3 rfl rfl rfl (by decide) ?_) | (refine MkG.row ?_)); conv => whnf)
    | (refine LitG.row ?_; conv => whnf)
    | exact trivial
    | (refine Br.mk (fun hb => ?_) (fun hb => ?_) <;> (first | (exfalso; revert hb; decide) | ((try simp only [BL] at hb) <;> (try simp only [DL] at hb) <;> (first | (exfalso; omega) | (conv => whnf)))))
    | (refine And.intro ?_ ?_; (focus (first | exact id | exact rfl | exact trivial | (intro hg; first | exact hg | exact rfl | (simp; done) | (simp at hg ⊢; assumption)) | omega | decide | exact is2_c _ _ _ | exact is1_c _ _ | exact isS_c _ _ | exact isB_c _ _ | exact Nat.le_refl _ | assumption | exact mulLe (by decide) (by omega) | exact mulLe2 (by decide) (by omega) (by omega) | (intros; simp only [BL] at *; omega) | (intros; (try simp only [BL] at *); (try simp only [DL] at *); omega) | (intros; simp only [BL] at *; rw [wr_id (by omega) (by omega)]; omega) | (intro h1 h2; exact Bool.and_eq_true_iff.2 ⟨h1, h2⟩) | (intros; simp_all; done))); conv => whnf)
    | (refine Or.inr (And.intro rfl ?_); first | (refine congrArg intV ?_) | (refine congrArg boolV ?_) | (refine tupII ?_ ?_) | (refine tupIII ?_ ?_ ?_) | (refine tupU ?_ ?_ ?_ ?_ ?_) | exact rfl))
  rw [e1]
  exact e2
end Go.Proofs.YtjfnhehjhicnoaaDoor

namespace Go.Proofs.YtjfnhehjhicnoaaDoor
open Go.RowKit

def oTl : Ord := fun id =>  if id = 48 then some (.go 0 (.go 1 (.go 2 (.fork (.alt 3 (.go 4 (.go 5 (.go 6 (.go 7 ((.done)))))) (.alt 5 (.go 3 (.go 4 (.go 6 (.go 7 ((.done)))))) (.none))))))) else none
theorem st_tdiv {n : Int} {g : Nat} (hg : g ∣ n.natAbs) : n.tdiv (g : Int) = n / (g : Int) := by
  obtain ⟨q, hq⟩ := hg
  by_cases h : n < 0
  · have h2 : n = (g : Int) * (-(q : Int)) := by
      rw [Int.mul_neg, ← Int.natCast_mul, ← hq]
      omega
    by_cases hg0 : (g : Int) = 0
    · rw [hg0, Int.tdiv_zero, Int.ediv_zero]
    · rw [h2, Int.mul_tdiv_cancel_left _ hg0, Int.mul_ediv_cancel_left _ hg0]
  · exact Int.tdiv_eq_ediv_of_nonneg (by omega)
theorem S_mod {x : Nat → Int} {d : Nat} (hd : 0 < d) : ∀ m, ∃ Q : Int, S x m = (d : Int) * Q + (rSum x d m : Int)
  | 0 => ⟨0, by simp [S, rSum]⟩
  | m + 1 => by
    obtain ⟨Q, hQ⟩ := S_mod (x := x) hd m
    refine ⟨Q + x m / (d : Int), ?_⟩
    have h1 := lft_add (x := x m) hd
    show S x m + x m = _ * _ + ((rSum x d m + lft (x m) d : Nat) : Int)
    rw [hQ, Int.mul_add, Int.natCast_add]
    omega
theorem st_mod {x : Nat → Int} {d m : Nat} (hd : 0 < d) : (S x m).tmod (d : Int) = 0 ↔ d ∣ rSum x d m := by
  obtain ⟨Q, hQ⟩ := S_mod (x := x) hd m
  constructor
  · intro h
    have h1 := Int.dvd_of_tmod_eq_zero h
    rw [hQ] at h1
    exact Int.natCast_dvd_natCast.1 ((Int.dvd_add_right (Int.dvd_mul_right _ _)).1 h1)
  · intro h
    refine Int.tmod_eq_zero_of_dvd ?_
    rw [hQ]
    exact (Int.dvd_add_right (Int.dvd_mul_right _ _)).2 (Int.natCast_dvd_natCast.2 h)
theorem ex_sh {g : Nat → Nat → L} (h0 : g 0 0 = .v (.string ⟨#[49, 47, 50]⟩)) (h1 : g 1 0 = .v (.string ⟨#[49, 47, 51]⟩)) (h2 : g 2 0 = .v (.string ⟨#[49, 47, 54]⟩)) : Le [.c (.sl 1 3 g)] [.c (.sl 1 3 (cTx (amN exX 6) (amD exX 6)))] := Le.cons (Le1.sl fun k hk j hj => by
  obtain rfl : j = 0 := by omega
  match k, hk with
  | 0, _ => exact h0.trans (congrArg (fun b => L.v (Value.string b)) ex_tx0.symm)
  | 1, _ => exact h1.trans (congrArg (fun b => L.v (Value.string b)) ex_tx1.symm)
  | 2, _ => exact h2.trans (congrArg (fun b => L.v (Value.string b)) ex_tx2.symm)) Le.nil
set_option maxRecDepth 100000 in
set_option maxHeartbeats 16000000 in
theorem stLaw (N : Nat) (v : Nat → Int) (d0 : Int) (hN : N ≤ maxLen) : FnT Tryd.prog pwG pwC 7 [.c (.sl 1 N (c1 v)), intV d0] (fun obs r => obs = [] ∧ r = boolV true) := by
  refine fnT_of_wpx (O := oTl) tab_ok gamLg_ok mixed Tryd.func7 (by kernel_rfl) rfl rfl rfl (by simp [Tryd.ntmps7]) (by kernel_rfl) ?_
  have hN' : N ≤ 9223372036854775807 := hN
  conv => whnf
  repeat' (first
    | (refine NilG.mk fun bn hbn hbx => ?_; conv => whnf)
    | (refine Both.mk ?_ ?_ <;> conv => whnf)
    | ((first | (refine MkG.box 1 rfl rfl rfl (by decide) ?_) | (refine MkG.box 2 rfl rfl rfl (by decide) ?_) | (refine MkG.box 3 rfl rfl rfl (by decide) ?_) | (refine MkG.row ?_)); conv => whnf)
    | (refine LitG.row ?_; conv => whnf)
    | exact trivial
    | (refine Br.mk (fun hb => ?_) (fun hb => ?_) <;> (first | (exfalso; revert hb; decide) | ((try simp only [BL] at hb) <;> (try simp only [DL] at hb) <;> (first | (exfalso; omega) | (conv => whnf)))))
    | (refine And.intro ?_ ?_; (focus (first | exact id | exact rfl | exact trivial | (intro hg; first | exact hg | exact rfl | (simp; done) | (simp at hg ⊢; assumption)) | omega | decide | exact is2_c _ _ _ | exact is1_c _ _ | exact isS_c _ _ | exact isB_c _ _ | exact Nat.le_refl _ | assumption | exact mulLe (by decide) (by omega) | exact mulLe2 (by decide) (by omega) (by omega) | (intros; simp only [BL] at *; omega) | (intros; (try simp only [BL] at *); (try simp only [DL] at *); omega) | (intros; simp only [BL] at *; rw [wr_id (by omega) (by omega)]; omega) | (intro h1 h2; exact Bool.and_eq_true_iff.2 ⟨h1, h2⟩) | (intros; simp_all; done))); conv => whnf)
    | (refine Or.inr (And.intro rfl ?_); first | (refine congrArg intV ?_) | (refine congrArg boolV ?_) | (refine tupII ?_ ?_) | (refine tupIII ?_ ?_ ?_) | (refine tupU ?_ ?_ ?_ ?_ ?_) | exact rfl))
  refine CallG.tb 1000000 rfl (FnT.mono (FnT.le exRnd (ex_sh rfl rfl rfl)) ?_)
  rintro obs r ⟨rfl, rfl⟩
  conv => whnf
  repeat' (first
    | (refine NilG.mk fun bn hbn hbx => ?_; conv => whnf)
    | (refine Both.mk ?_ ?_ <;> conv => whnf)
    | ((first | (refine MkG.box 1 rfl rfl rfl (by decide) ?_) | (refine MkG.box 2 rfl rfl rfl (by decide) ?_) | (refine MkG.box 3 rfl rfl rfl (by decide) ?_) | (refine MkG.row ?_)); conv => whnf)
    | (refine LitG.row ?_; conv => whnf)
    | exact trivial
    | (refine Br.mk (fun hb => ?_) (fun hb => ?_) <;> (first | (exfalso; revert hb; decide) | ((try simp only [BL] at hb) <;> (try simp only [DL] at hb) <;> (first | (exfalso; omega) | (conv => whnf)))))
    | (refine And.intro ?_ ?_; (focus (first | exact id | exact rfl | exact trivial | (intro hg; first | exact hg | exact rfl | (simp; done) | (simp at hg ⊢; assumption)) | omega | decide | exact is2_c _ _ _ | exact is1_c _ _ | exact isS_c _ _ | exact isB_c _ _ | exact Nat.le_refl _ | assumption | exact mulLe (by decide) (by omega) | exact mulLe2 (by decide) (by omega) (by omega) | (intros; simp only [BL] at *; omega) | (intros; (try simp only [BL] at *); (try simp only [DL] at *); omega) | (intros; simp only [BL] at *; rw [wr_id (by omega) (by omega)]; omega) | (intro h1 h2; exact Bool.and_eq_true_iff.2 ⟨h1, h2⟩) | (intros; simp_all; done))); conv => whnf)
    | (refine Or.inr (And.intro rfl ?_); first | (refine congrArg intV ?_) | (refine congrArg boolV ?_) | (refine tupII ?_ ?_) | (refine tupIII ?_ ?_ ?_) | (refine tupU ?_ ?_ ?_ ?_ ?_) | exact rfl))
  refine And.intro (fun hg => ?_) (fun hg => absurd hg (by decide))
  conv => whnf
  repeat' (first
    | (refine NilG.mk fun bn hbn hbx => ?_; conv => whnf)
    | (refine Both.mk ?_ ?_ <;> conv => whnf)
    | ((first | (refine MkG.box 1 rfl rfl rfl (by decide) ?_) | (refine MkG.box 2 rfl rfl rfl (by decide) ?_) | (refine MkG.box 3 rfl rfl rfl (by decide) ?_) | (refine MkG.row ?_)); conv => whnf)
    | (refine LitG.row ?_; conv => whnf)
    | exact trivial
    | (refine Br.mk (fun hb => ?_) (fun hb => ?_) <;> (first | (exfalso; revert hb; decide) | ((try simp only [BL] at hb) <;> (try simp only [DL] at hb) <;> (first | (exfalso; omega) | (conv => whnf)))))
    | (refine And.intro ?_ ?_; (focus (first | exact id | exact rfl | exact trivial | (intro hg; first | exact hg | exact rfl | (simp; done) | (simp at hg ⊢; assumption)) | omega | decide | exact is2_c _ _ _ | exact is1_c _ _ | exact isS_c _ _ | exact isB_c _ _ | exact Nat.le_refl _ | assumption | exact mulLe (by decide) (by omega) | exact mulLe2 (by decide) (by omega) (by omega) | (intros; simp only [BL] at *; omega) | (intros; (try simp only [BL] at *); (try simp only [DL] at *); omega) | (intros; simp only [BL] at *; rw [wr_id (by omega) (by omega)]; omega) | (intro h1 h2; exact Bool.and_eq_true_iff.2 ⟨h1, h2⟩) | (intros; simp_all; done))); conv => whnf)
    | (refine Or.inr (And.intro rfl ?_); first | (refine congrArg intV ?_) | (refine congrArg boolV ?_) | (refine tupII ?_ ?_) | (refine tupIII ?_ ?_ ?_) | (refine tupU ?_ ?_ ?_ ?_ ?_) | exact rfl))
  refine And.intro (fun hg => ?_) (fun hg => absurd hg (by decide))
  conv => whnf
  repeat' (first
    | (refine NilG.mk fun bn hbn hbx => ?_; conv => whnf)
    | (refine Both.mk ?_ ?_ <;> conv => whnf)
    | ((first | (refine MkG.box 1 rfl rfl rfl (by decide) ?_) | (refine MkG.box 2 rfl rfl rfl (by decide) ?_) | (refine MkG.box 3 rfl rfl rfl (by decide) ?_) | (refine MkG.row ?_)); conv => whnf)
    | (refine LitG.row ?_; conv => whnf)
    | exact trivial
    | (refine Br.mk (fun hb => ?_) (fun hb => ?_) <;> (first | (exfalso; revert hb; decide) | ((try simp only [BL] at hb) <;> (try simp only [DL] at hb) <;> (first | (exfalso; omega) | (conv => whnf)))))
    | (refine And.intro ?_ ?_; (focus (first | exact id | exact rfl | exact trivial | (intro hg; first | exact hg | exact rfl | (simp; done) | (simp at hg ⊢; assumption)) | omega | decide | exact is2_c _ _ _ | exact is1_c _ _ | exact isS_c _ _ | exact isB_c _ _ | exact Nat.le_refl _ | assumption | exact mulLe (by decide) (by omega) | exact mulLe2 (by decide) (by omega) (by omega) | (intros; simp only [BL] at *; omega) | (intros; (try simp only [BL] at *); (try simp only [DL] at *); omega) | (intros; simp only [BL] at *; rw [wr_id (by omega) (by omega)]; omega) | (intro h1 h2; exact Bool.and_eq_true_iff.2 ⟨h1, h2⟩) | (intros; simp_all; done))); conv => whnf)
    | (refine Or.inr (And.intro rfl ?_); first | (refine congrArg intV ?_) | (refine congrArg boolV ?_) | (refine tupII ?_ ?_) | (refine tupIII ?_ ?_ ?_) | (refine tupU ?_ ?_ ?_ ?_ ?_) | exact rfl))
  refine CallG.mk (Fn.mono (Fn.le (stSame 3 3 (fun i => if i = 0 then 1 else 0) (fun i => if i = 0 then 1 else 0) ⟨by decide, rfl, fun _ _ => rfl⟩) (Le.cons (Le1.refl _) (Le.cons (Le1.sl fun k hk j hj => ?_) Le.nil))) ?_)
  · obtain rfl : j = 0 := by
      have : j < 1 := hj
      omega
    match k, hk with
    | 0, _ => rfl
    | 1, _ => rfl
    | 2, _ => rfl
  rintro obs r ⟨rfl, rfl⟩
  conv => whnf
  repeat' (first
    | (refine NilG.mk fun bn hbn hbx => ?_; conv => whnf)
    | (refine Both.mk ?_ ?_ <;> conv => whnf)
    | ((first | (refine MkG.box 1 rfl rfl rfl (by decide) ?_) | (refine MkG.box 2 rfl rfl rfl (by decide) ?_) | (refine MkG.box 3 rfl rfl rfl (by decide) ?_) | (refine MkG.row ?_)); conv => whnf)
    | (refine LitG.row ?_; conv => whnf)
    | exact trivial
    | (refine Br.mk (fun hb => ?_) (fun hb => ?_) <;> (first | (exfalso; revert hb; decide) | ((try simp only [BL] at hb) <;> (try simp only [DL] at hb) <;> (first | (exfalso; omega) | (conv => whnf)))))
    | (refine And.intro ?_ ?_; (focus (first | exact id | exact rfl | exact trivial | (intro hg; first | exact hg | exact rfl | (simp; done) | (simp at hg ⊢; assumption)) | omega | decide | exact is2_c _ _ _ | exact is1_c _ _ | exact isS_c _ _ | exact isB_c _ _ | exact Nat.le_refl _ | assumption | exact mulLe (by decide) (by omega) | exact mulLe2 (by decide) (by omega) (by omega) | (intros; simp only [BL] at *; omega) | (intros; (try simp only [BL] at *); (try simp only [DL] at *); omega) | (intros; simp only [BL] at *; rw [wr_id (by omega) (by omega)]; omega) | (intro h1 h2; exact Bool.and_eq_true_iff.2 ⟨h1, h2⟩) | (intros; simp_all; done))); conv => whnf)
    | (refine Or.inr (And.intro rfl ?_); first | (refine congrArg intV ?_) | (refine congrArg boolV ?_) | (refine tupII ?_ ?_) | (refine tupIII ?_ ?_ ?_) | (refine tupU ?_ ?_ ?_ ?_ ?_) | exact rfl))
  have b1 := Int.tmod_lt_of_pos d0 (show (0 : Int) < 12 by decide)
  have b2 := Int.lt_tmod_of_pos d0 (show (0 : Int) < 12 by decide)
  obtain ⟨d, hd0, hd, ed⟩ : ∃ d : Nat, 0 < d ∧ d ≤ 12 ∧ IntKind.i64.wrap ((IntKind.i64.wrap (d0.tmod 12 + 12)).tmod 12 + 1) = (d : Int) := by
    have e : IntKind.i64.wrap (d0.tmod 12 + 12) = d0.tmod 12 + 12 := wr_id (by omega) (by omega)
    rw [e, Int.tmod_eq_emod_of_nonneg (by omega)]
    have e2 := wr_id (x := (d0.tmod 12 + 12) % 12 + 1) (by omega) (by omega)
    rw [e2]
    exact ⟨((d0.tmod 12 + 12) % 12 + 1).toNat, by omega, by omega, by omega⟩
  obtain ⟨m, em, hm⟩ : ∃ m : Nat, 0 + ((min ((N : Nat) : Int) 12).toNat - Int.toNat 0) = m ∧ m ≤ 12 := ⟨_, rfl, by
    have e : Int.toNat 0 = 0 := rfl
    omega⟩
  rw [ed, em]
  clear b1 b2 hb
  refine LoopG.frz [0] ?_
  refine sem_loop tab_ok gamLg_ok mixed (by kernel_rfl) (O := oTl) (fun k : Nat => ⟨[(0, .own 0), (3, .xp 1 (ccD d)), (7, nilW), (8, intV 0), (53, intV (m : Int)), (54, intV (k : Int)), (1000000, .gt pwG pwC)], [.row 3 1 m false (c1 fun a => if a < k then (v a).tmod 1000 else v a)]⟩) (fun k => k ≤ m) (fun k => m - k) ⟨0, [4], Nat.zero_le _, ?_⟩ fun k hk => ?_
  · refine Sub.of ?_ ?_ ?_
    repeat' (first | (refine And.intro ?_ ?_) | exact trivial | exact fun _ _ _ => hsc _ _ | (exact congrArg intV (by first | with_reducible rfl | with_reducible assumption)) | exact (rfl : AV.idsLt _ _ = true) | exact (rfl : _ = AV.ren _ (.own _)) | exact (rfl : _ = AV.ren _ (.fn _ _)) | exact (rfl : _ = AV.ren _ (.gh _)) | (exact congrArg intV (by assumption)) | (refine congrArg intV ((wr_id (by omega) (by omega)).trans (by omega))) | exact rfl | (simp only [NLc]; first | exact rfl | done) | exact all0 | exact fun h => Bool.noConfusion h | exact fun _ _ _ _ => rfl | omega)
    intro a ha b hb
    have hb : b < 1 := hb
    obtain rfl : b = 0 := by omega
    refine (if_neg (Nat.not_lt_zero a)).trans ?_
    show iL (v (0 + (a - 0))) = iL (if a < 0 then _ else v a)
    rw [if_neg (Nat.not_lt_zero a), Nat.zero_add, Nat.sub_zero]
  rcases Nat.lt_or_ge k m with hkm | hkm
  · conv => whnf
    repeat' (first
      | (refine NilG.mk fun bn hbn hbx => ?_; conv => whnf)
      | (refine Both.mk ?_ ?_ <;> conv => whnf)
      | ((first | (refine MkG.box 1 rfl rfl rfl (by decide) ?_) | (refine MkG.box 2 rfl rfl rfl (by decide) ?_) | (refine MkG.box 3 rfl rfl rfl (by decide) ?_) | (refine MkG.row ?_)); conv => whnf)
      | (refine LitG.row ?_; conv => whnf)
      | exact trivial
      | (refine Br.mk (fun hb => ?_) (fun hb => ?_) <;> (first | (exfalso; revert hb; decide) | ((try simp only [BL] at hb) <;> (try simp only [DL] at hb) <;> (first | (exfalso; omega) | (conv => whnf)))))
      | (refine And.intro ?_ ?_; (focus (first | exact id | exact rfl | exact trivial | (intro hg; first | exact hg | exact rfl | (simp; done) | (simp at hg ⊢; assumption)) | omega | decide | exact is2_c _ _ _ | exact is1_c _ _ | exact isS_c _ _ | exact isB_c _ _ | exact Nat.le_refl _ | assumption | exact mulLe (by decide) (by omega) | exact mulLe2 (by decide) (by omega) (by omega) | (intros; simp only [BL] at *; omega) | (intros; (try simp only [BL] at *); (try simp only [DL] at *); omega) | (intros; simp only [BL] at *; rw [wr_id (by omega) (by omega)]; omega) | (intro h1 h2; exact Bool.and_eq_true_iff.2 ⟨h1, h2⟩) | (intros; simp_all; done))); conv => whnf)
      | (refine Or.inr (And.intro rfl ?_); first | (refine congrArg intV ?_) | (refine congrArg boolV ?_) | (refine tupII ?_ ?_) | (refine tupIII ?_ ?_ ?_) | (refine tupU ?_ ?_ ?_ ?_ ?_) | exact rfl))
    have a2 : (if k < k then (v k).tmod 1000 else v k) = v k := if_neg (by omega)
    simp only [Int.toNat_natCast, a2]
    refine ⟨k + 1, [?_], by omega, by omega, ?_⟩
    rotate_left 1
    refine Sub.of ?_ ?_ ?_
    repeat' (first | (refine And.intro ?_ ?_) | exact trivial | exact fun _ _ _ => hsc _ _ | (exact congrArg intV (by first | with_reducible rfl | with_reducible assumption)) | exact (rfl : AV.idsLt _ _ = true) | exact (rfl : _ = AV.ren _ (.own _)) | exact (rfl : _ = AV.ren _ (.fn _ _)) | exact (rfl : _ = AV.ren _ (.gh _)) | (exact congrArg intV (by assumption)) | (refine congrArg intV ((wr_id (by omega) (by omega)).trans (by omega))) | exact rfl | (simp only [NLc]; first | exact rfl | done) | exact all0 | exact fun h => Bool.noConfusion h | exact fun _ _ _ _ => rfl | omega)
    refine row_set1 ?_ fun a ha hne => ?_
    · show iL ((v k).tmod 1000) = iL (if k < k + 1 then (v k).tmod 1000 else v k)
      rw [if_pos (by omega)]
    · show iL (if a < k then (v a).tmod 1000 else v a) = iL (if a < k + 1 then (v a).tmod 1000 else v a)
      by_cases h : a < k
      · rw [if_pos h, if_pos (by omega)]
      · rw [if_neg h, if_neg (by omega)]
  obtain rfl : k = m := by omega
  conv => whnf
  repeat' (first
    | (refine NilG.mk fun bn hbn hbx => ?_; conv => whnf)
    | (refine Both.mk ?_ ?_ <;> conv => whnf)
    | ((first | (refine MkG.box 1 rfl rfl rfl (by decide) ?_) | (refine MkG.box 2 rfl rfl rfl (by decide) ?_) | (refine MkG.box 3 rfl rfl rfl (by decide) ?_) | (refine MkG.row ?_)); conv => whnf)
    | (refine LitG.row ?_; conv => whnf)
    | exact trivial
    | (refine Br.mk (fun hb => ?_) (fun hb => ?_) <;> (first | (exfalso; revert hb; decide) | ((try simp only [BL] at hb) <;> (try simp only [DL] at hb) <;> (first | (exfalso; omega) | (conv => whnf)))))
    | (refine And.intro ?_ ?_; (focus (first | exact id | exact rfl | exact trivial | (intro hg; first | exact hg | exact rfl | (simp; done) | (simp at hg ⊢; assumption)) | omega | decide | exact is2_c _ _ _ | exact is1_c _ _ | exact isS_c _ _ | exact isB_c _ _ | exact Nat.le_refl _ | assumption | exact mulLe (by decide) (by omega) | exact mulLe2 (by decide) (by omega) (by omega) | (intros; simp only [BL] at *; omega) | (intros; (try simp only [BL] at *); (try simp only [DL] at *); omega) | (intros; simp only [BL] at *; rw [wr_id (by omega) (by omega)]; omega) | (intro h1 h2; exact Bool.and_eq_true_iff.2 ⟨h1, h2⟩) | (intros; simp_all; done))); conv => whnf)
    | (refine Or.inr (And.intro rfl ?_); first | (refine congrArg intV ?_) | (refine congrArg boolV ?_) | (refine tupII ?_ ?_) | (refine tupIII ?_ ?_ ?_) | (refine tupU ?_ ?_ ?_ ?_ ?_) | exact rfl))
  refine LoopG.nil 7 40 1 rfl ?_
  obtain ⟨x, hx⟩ : ∃ x : Nat → Int, x = fun a => (v a).tmod 1000 := ⟨_, rfl⟩
  have hxb : ∀ a, (x a).natAbs ≤ 999 := fun a => by
    have h1 := Int.tmod_lt_of_pos (v a) (show (0 : Int) < 1000 by decide)
    have h2 := Int.lt_tmod_of_pos (v a) (show (0 : Int) < 1000 by decide)
    rw [hx]
    show ((v a).tmod 1000).natAbs ≤ 999
    omega
  have hok : okX k d x := ⟨hm, hd0, hd, fun a _ => hxb a⟩
  refine sem_loop tab_ok gamLg_ok mixed (by kernel_rfl) (O := oTl) (fun i : Nat => ⟨[(0, .own 0), (3, .xp 1 (ccD d)), (7, .own 1), (8, intV (S x i)), (66, .own 0), (67, intV (k : Int)), (68, intV (i : Int)), (1000000, .gt pwG pwC)], [.row 3 1 k false (c1 x), .row 40 1 i false (cTx (amN x d) (amD x d))]⟩) (fun i => i ≤ k) (fun i => k - i) ⟨0, [?_, ?_], Nat.zero_le _, ?_⟩ fun i hi => ?_
  rotate_left 2
  · refine Sub.of ?_ ?_ ?_
    repeat' (first | (refine And.intro ?_ ?_) | exact trivial | exact fun _ _ _ => hsc _ _ | (exact congrArg intV (by first | with_reducible rfl | with_reducible assumption)) | exact (rfl : AV.idsLt _ _ = true) | exact (rfl : _ = AV.ren _ (.own _)) | exact (rfl : _ = AV.ren _ (.fn _ _)) | exact (rfl : _ = AV.ren _ (.gh _)) | (exact congrArg intV (by assumption)) | (refine congrArg intV ((wr_id (by omega) (by omega)).trans (by omega))) | exact rfl | (simp only [NLc]; first | exact rfl | done) | exact all0 | exact fun h => Bool.noConfusion h | exact fun _ _ _ _ => rfl | omega)
    intro a ha b hb
    have hb : b < 1 := hb
    obtain rfl : b = 0 := by omega
    show iL (if a < k then (v a).tmod 1000 else v a) = iL (x a)
    rw [if_pos ha, hx]
  have hSb : ∀ i, i ≤ 12 → -11988 ≤ S x i ∧ S x i ≤ 11988 := fun i hi => by
    have h := S_le (p := x) (a := -999) (b := 999) (k := i) fun a _ => by
      have := hxb a
      omega
    omega
  rcases Nat.lt_or_ge i k with hik | hik
  · have hxi := hxb i
    have hG0 : 0 < Nat.gcd (x i).natAbs d := Nat.gcd_pos_of_pos_right _ hd0
    have hGd : Nat.gcd (x i).natAbs d ≤ d := Nat.gcd_le_right _ hd0
    have eN : IntKind.i64.wrap ((x i).tdiv ((Nat.gcd (x i).natAbs d : Nat) : Int)) = amN x d i := by
      rw [st_tdiv (Nat.gcd_dvd_left _ _)]
      have h2 : ∀ z : Int, z.natAbs ≤ 999 → IntKind.i64.wrap z = z := fun z hz => wr_id (by omega) (by omega)
      exact h2 _ (Nat.le_trans (redN_le (n := x i) hd0) hxi)
    have eD : IntKind.i64.wrap ((d : Int).tdiv ((Nat.gcd (x i).natAbs d : Nat) : Int)) = ((amD x d i : Nat) : Int) := by
      rw [Int.tdiv_eq_ediv_of_nonneg (by omega), ← Int.natCast_ediv]
      have h2 : ∀ z : Nat, z ≤ d → IntKind.i64.wrap ((z : Nat) : Int) = ((z : Nat) : Int) := fun z hz => wr_id (by omega) (by omega)
      exact h2 _ (redD_le (x i) d)
    have hNb : (amN x d i).natAbs ≤ 999 := Nat.le_trans (redN_le hd0) hxi
    have hDb : amD x d i ≤ 12 := Nat.le_trans (redD_le _ _) hd
    have hD0 : 0 < amD x d i := redD_pos hd0
    have rN := stDec (amN x d i) (by omega) (by omega)
    have rD := stDec ((amD x d i : Nat) : Int) (by omega) (by omega)
    rw [sI_nat] at rD
    have zN := sI_le (x := amN x d i) (by omega)
    have zD := dec_le9 (u := amD x d i) (by omega)
    have hS0 := hSb i (by omega)
    have eS : IntKind.i64.wrap (S x i + x i) = S x (i + 1) := wr_id (by omega) (by omega)
    conv => whnf
    repeat' (first
      | (refine NilG.mk fun bn hbn hbx => ?_; conv => whnf)
      | (refine Both.mk ?_ ?_ <;> conv => whnf)
      | ((first | (refine MkG.box 1 rfl rfl rfl (by decide) ?_) | (refine MkG.box 2 rfl rfl rfl (by decide) ?_) | (refine MkG.box 3 rfl rfl rfl (by decide) ?_) | (refine MkG.row ?_)); conv => whnf)
      | (refine LitG.row ?_; conv => whnf)
      | exact trivial
      | (refine Br.mk (fun hb => ?_) (fun hb => ?_) <;> (first | (exfalso; revert hb; decide) | ((try simp only [BL] at hb) <;> (try simp only [DL] at hb) <;> (first | (exfalso; omega) | (conv => whnf)))))
      | (refine And.intro ?_ ?_; (focus (first | exact id | exact rfl | exact trivial | (intro hg; first | exact hg | exact rfl | (simp; done) | (simp at hg ⊢; assumption)) | omega | decide | exact is2_c _ _ _ | exact is1_c _ _ | exact isS_c _ _ | exact isB_c _ _ | exact Nat.le_refl _ | assumption | exact mulLe (by decide) (by omega) | exact mulLe2 (by decide) (by omega) (by omega) | (intros; simp only [BL] at *; omega) | (intros; (try simp only [BL] at *); (try simp only [DL] at *); omega) | (intros; simp only [BL] at *; rw [wr_id (by omega) (by omega)]; omega) | (intro h1 h2; exact Bool.and_eq_true_iff.2 ⟨h1, h2⟩) | (intros; simp_all; done))); conv => whnf)
      | (refine Or.inr (And.intro rfl ?_); first | (refine congrArg intV ?_) | (refine congrArg boolV ?_) | (refine tupII ?_ ?_) | (refine tupIII ?_ ?_ ?_) | (refine tupU ?_ ?_ ?_ ?_ ?_) | exact rfl))
    refine sem_loop tab_ok gamLg_ok mixed (by kernel_rfl) (O := oTl) (fun p : Int × Int => ⟨[(0, .own 0), (3, .xp 1 (ccD d)), (7, .own 1), (8, intV (S x i)), (11, intV (x i)), (12, intV p.1), (13, intV p.2), (66, .own 0), (67, intV (k : Int)), (68, intV (i : Int)), (1000000, .gt pwG pwC)], [.row 3 1 k false (c1 x), .row 40 1 i false (cTx (amN x d) (amD x d))]⟩) (fun p => Nat.gcd p.1.natAbs p.2.natAbs = Nat.gcd (x i).natAbs d ∧ p.1.natAbs ≤ 999 ∧ p.2.natAbs ≤ 999) (fun p => p.2.natAbs) ⟨(x i, (d : Int)), [?_, ?_], ⟨by show Nat.gcd (x i).natAbs (d : Int).natAbs = _; rw [Int.natAbs_natCast], hxi, by show (d : Int).natAbs ≤ 999; omega⟩, ?_⟩ fun p hp => ?_
    rotate_left 2
    · refine Sub.of ?_ ?_ ?_
      repeat' (first | (refine And.intro ?_ ?_) | exact trivial | exact fun _ _ _ => hsc _ _ | (exact congrArg intV (by first | with_reducible rfl | with_reducible assumption)) | exact (rfl : AV.idsLt _ _ = true) | exact (rfl : _ = AV.ren _ (.own _)) | exact (rfl : _ = AV.ren _ (.fn _ _)) | exact (rfl : _ = AV.ren _ (.gh _)) | (exact congrArg intV (by assumption)) | (refine congrArg intV ((wr_id (by omega) (by omega)).trans (by omega))) | exact rfl | (simp only [NLc]; first | exact rfl | done) | exact all0 | exact fun h => Bool.noConfusion h | exact fun _ _ _ _ => rfl | omega)
    obtain ⟨a, b⟩ := p
    obtain ⟨hg, ha, hb9⟩ := hp
    simp only at hg ha hb9
    dsimp only
    rcases Decidable.em (b = 0) with rfl | hb0
    · have hga : a.natAbs = Nat.gcd (x i).natAbs d := by
        rw [← hg]
        exact (Nat.gcd_zero_right _).symm
      have em2 : max a (IntKind.i64.wrap (0 - a)) = ((Nat.gcd (x i).natAbs d : Nat) : Int) := by
        have e : IntKind.i64.wrap (0 - a) = -a := (wr_id (by omega) (by omega)).trans (by omega)
        rw [e, ← hga]
        omega
      conv => whnf
      repeat' (first
        | (refine NilG.mk fun bn hbn hbx => ?_; conv => whnf)
        | (refine Both.mk ?_ ?_ <;> conv => whnf)
        | ((first | (refine MkG.box 1 rfl rfl rfl (by decide) ?_) | (refine MkG.box 2 rfl rfl rfl (by decide) ?_) | (refine MkG.box 3 rfl rfl rfl (by decide) ?_) | (refine MkG.row ?_)); conv => whnf)
        | (refine LitG.row ?_; conv => whnf)
        | exact trivial
        | (refine Br.mk (fun hb => ?_) (fun hb => ?_) <;> (first | (exfalso; revert hb; decide) | ((try simp only [BL] at hb) <;> (try simp only [DL] at hb) <;> (first | (exfalso; omega) | (conv => whnf)))))
        | (refine And.intro ?_ ?_; (focus (first | exact id | exact rfl | exact trivial | (intro hg; first | exact hg | exact rfl | (simp; done) | (simp at hg ⊢; assumption)) | omega | decide | exact is2_c _ _ _ | exact is1_c _ _ | exact isS_c _ _ | exact isB_c _ _ | exact Nat.le_refl _ | assumption | exact mulLe (by decide) (by omega) | exact mulLe2 (by decide) (by omega) (by omega) | (intros; simp only [BL] at *; omega) | (intros; (try simp only [BL] at *); (try simp only [DL] at *); omega) | (intros; simp only [BL] at *; rw [wr_id (by omega) (by omega)]; omega) | (intro h1 h2; exact Bool.and_eq_true_iff.2 ⟨h1, h2⟩) | (intros; simp_all; done))); conv => whnf)
        | (refine Or.inr (And.intro rfl ?_); first | (refine congrArg intV ?_) | (refine congrArg boolV ?_) | (refine tupII ?_ ?_) | (refine tupIII ?_ ?_ ?_) | (refine tupU ?_ ?_ ?_ ?_ ?_) | exact rfl))
      rw [em2, eN]
      refine CallG.mk (Fn.mono rN ?_)
      rintro obs r ⟨rfl, rfl⟩
      conv => whnf
      repeat' (first
        | (refine NilG.mk fun bn hbn hbx => ?_; conv => whnf)
        | (refine Both.mk ?_ ?_ <;> conv => whnf)
        | ((first | (refine MkG.box 1 rfl rfl rfl (by decide) ?_) | (refine MkG.box 2 rfl rfl rfl (by decide) ?_) | (refine MkG.box 3 rfl rfl rfl (by decide) ?_) | (refine MkG.row ?_)); conv => whnf)
        | (refine LitG.row ?_; conv => whnf)
        | exact trivial
        | (refine Br.mk (fun hb => ?_) (fun hb => ?_) <;> (first | (exfalso; revert hb; decide) | ((try simp only [BL] at hb) <;> (try simp only [DL] at hb) <;> (first | (exfalso; omega) | (conv => whnf)))))
        | (refine And.intro ?_ ?_; (focus (first | exact id | exact rfl | exact trivial | (intro hg; first | exact hg | exact rfl | (simp; done) | (simp at hg ⊢; assumption)) | omega | decide | exact is2_c _ _ _ | exact is1_c _ _ | exact isS_c _ _ | exact isB_c _ _ | exact Nat.le_refl _ | assumption | exact mulLe (by decide) (by omega) | exact mulLe2 (by decide) (by omega) (by omega) | (intros; simp only [BL] at *; omega) | (intros; (try simp only [BL] at *); (try simp only [DL] at *); omega) | (intros; simp only [BL] at *; rw [wr_id (by omega) (by omega)]; omega) | (intro h1 h2; exact Bool.and_eq_true_iff.2 ⟨h1, h2⟩) | (intros; simp_all; done))); conv => whnf)
        | (refine Or.inr (And.intro rfl ?_); first | (refine congrArg intV ?_) | (refine congrArg boolV ?_) | (refine tupII ?_ ?_) | (refine tupIII ?_ ?_ ?_) | (refine tupU ?_ ?_ ?_ ?_ ?_) | exact rfl))
      · rw [eD] at hb ⊢
        have hT : sI (amN x d i) ++ ((⟨#[47]⟩ : ByteArray) ++ decB (amD x d i)) = rT (amN x d i) (amD x d i) := by
          rw [rT_n (by omega), app_assoc]
        refine CallG.mk (Fn.mono rD ?_)
        rintro obs r ⟨rfl, rfl⟩
        have zq : ((⟨#[47]⟩ : ByteArray) ++ decB (amD x d i)).size ≤ 10 := by
          rw [ByteArray.size_append]
          show 1 + _ ≤ 10
          omega
        conv => whnf
        repeat' (first
          | (refine NilG.mk fun bn hbn hbx => ?_; conv => whnf)
          | (refine Both.mk ?_ ?_ <;> conv => whnf)
          | ((first | (refine MkG.box 1 rfl rfl rfl (by decide) ?_) | (refine MkG.box 2 rfl rfl rfl (by decide) ?_) | (refine MkG.box 3 rfl rfl rfl (by decide) ?_) | (refine MkG.row ?_)); conv => whnf)
          | (refine LitG.row ?_; conv => whnf)
          | exact trivial
          | (refine Br.mk (fun hb => ?_) (fun hb => ?_) <;> (first | (exfalso; revert hb; decide) | ((try simp only [BL] at hb) <;> (try simp only [DL] at hb) <;> (first | (exfalso; omega) | (conv => whnf)))))
          | (refine And.intro ?_ ?_; (focus (first | exact id | exact rfl | exact trivial | (intro hg; first | exact hg | exact rfl | (simp; done) | (simp at hg ⊢; assumption)) | omega | decide | exact is2_c _ _ _ | exact is1_c _ _ | exact isS_c _ _ | exact isB_c _ _ | exact Nat.le_refl _ | assumption | exact mulLe (by decide) (by omega) | exact mulLe2 (by decide) (by omega) (by omega) | (intros; simp only [BL] at *; omega) | (intros; (try simp only [BL] at *); (try simp only [DL] at *); omega) | (intros; simp only [BL] at *; rw [wr_id (by omega) (by omega)]; omega) | (intro h1 h2; exact Bool.and_eq_true_iff.2 ⟨h1, h2⟩) | (show _ ≤ maxLen; unfold maxLen; show 1 + _ ≤ _; omega) | (show _ ≤ maxLen; unfold maxLen; omega) | (intros; simp_all; done))); conv => whnf)
          | (refine Or.inr (And.intro rfl ?_); first | (refine congrArg intV ?_) | (refine congrArg boolV ?_) | (refine tupII ?_ ?_) | (refine tupIII ?_ ?_ ?_) | (refine tupU ?_ ?_ ?_ ?_ ?_) | exact rfl))
        rw [hT]
        refine ⟨i + 1, [0, 3], by omega, by omega, ?_⟩
        refine Sub.of ?_ ?_ ?_
        repeat' (first | (refine And.intro ?_ ?_) | exact trivial | exact fun _ _ _ => hsc _ _ | (exact congrArg intV (by first | with_reducible rfl | with_reducible assumption)) | exact (rfl : AV.idsLt _ _ = true) | exact (rfl : _ = AV.ren _ (.own _)) | exact (rfl : _ = AV.ren _ (.fn _ _)) | exact (rfl : _ = AV.ren _ (.gh _)) | (exact congrArg intV (by assumption)) | (refine congrArg intV ((wr_id (by omega) (by omega)).trans (by omega))) | exact rfl | (simp only [NLc]; first | exact rfl | done) | exact all0 | exact fun h => Bool.noConfusion h | exact fun _ _ _ _ => rfl | omega)
        intro aq haq bq hbq
        by_cases hltq : aq < i
        · exact if_pos hltq
        · obtain rfl : aq = i := by omega
          refine (if_neg hltq).trans ?_
          rw [Nat.sub_self]
          revert bq hbq
          refine all1 rfl
      · rw [eD] at hb
        have hT : sI (amN x d i) = rT (amN x d i) (amD x d i) := by
          rw [show amD x d i = 1 by omega, rT_1]
        rw [hT]
        refine ⟨i + 1, [0, 3], by omega, by omega, ?_⟩
        refine Sub.of ?_ ?_ ?_
        repeat' (first | (refine And.intro ?_ ?_) | exact trivial | exact fun _ _ _ => hsc _ _ | (exact congrArg intV (by first | with_reducible rfl | with_reducible assumption)) | exact (rfl : AV.idsLt _ _ = true) | exact (rfl : _ = AV.ren _ (.own _)) | exact (rfl : _ = AV.ren _ (.fn _ _)) | exact (rfl : _ = AV.ren _ (.gh _)) | (exact congrArg intV (by assumption)) | (refine congrArg intV ((wr_id (by omega) (by omega)).trans (by omega))) | exact rfl | (simp only [NLc]; first | exact rfl | done) | exact all0 | exact fun h => Bool.noConfusion h | exact fun _ _ _ _ => rfl | omega)
        intro aq haq bq hbq
        by_cases hltq : aq < i
        · exact if_pos hltq
        · obtain rfl : aq = i := by omega
          refine (if_neg hltq).trans ?_
          rw [Nat.sub_self]
          revert bq hbq
          refine all1 rfl
    · have hlt : (a.tmod b).natAbs < b.natAbs := by
        rw [Int.natAbs_tmod]
        exact Nat.mod_lt _ (by omega)
      have hg2 : Nat.gcd b.natAbs (a.tmod b).natAbs = Nat.gcd (x i).natAbs d := by
        rw [Int.natAbs_tmod, gcd_step]
        exact hg
      conv => whnf
      repeat' (first
        | (refine NilG.mk fun bn hbn hbx => ?_; conv => whnf)
        | (refine Both.mk ?_ ?_ <;> conv => whnf)
        | ((first | (refine MkG.box 1 rfl rfl rfl (by decide) ?_) | (refine MkG.box 2 rfl rfl rfl (by decide) ?_) | (refine MkG.box 3 rfl rfl rfl (by decide) ?_) | (refine MkG.row ?_)); conv => whnf)
        | (refine LitG.row ?_; conv => whnf)
        | exact trivial
        | (refine Br.mk (fun hb => ?_) (fun hb => ?_) <;> (first | (exfalso; revert hb; decide) | ((try simp only [BL] at hb) <;> (try simp only [DL] at hb) <;> (first | (exfalso; omega) | (conv => whnf)))))
        | (refine And.intro ?_ ?_; (focus (first | exact id | exact rfl | exact trivial | (intro hg; first | exact hg | exact rfl | (simp; done) | (simp at hg ⊢; assumption)) | omega | decide | exact is2_c _ _ _ | exact is1_c _ _ | exact isS_c _ _ | exact isB_c _ _ | exact Nat.le_refl _ | assumption | exact mulLe (by decide) (by omega) | exact mulLe2 (by decide) (by omega) (by omega) | (intros; simp only [BL] at *; omega) | (intros; (try simp only [BL] at *); (try simp only [DL] at *); omega) | (intros; simp only [BL] at *; rw [wr_id (by omega) (by omega)]; omega) | (intro h1 h2; exact Bool.and_eq_true_iff.2 ⟨h1, h2⟩) | (intros; simp_all; done))); conv => whnf)
        | (refine Or.inr (And.intro rfl ?_); first | (refine congrArg intV ?_) | (refine congrArg boolV ?_) | (refine tupII ?_ ?_) | (refine tupIII ?_ ?_ ?_) | (refine tupU ?_ ?_ ?_ ?_ ?_) | exact rfl))
      refine ⟨(b, a.tmod b), [?_, ?_], ⟨hg2, hb9, by show (a.tmod b).natAbs ≤ 999; omega⟩, hlt, ?_⟩
      rotate_left 2
      refine Sub.of ?_ ?_ ?_
      repeat' (first | (refine And.intro ?_ ?_) | exact trivial | exact fun _ _ _ => hsc _ _ | (exact congrArg intV (by first | with_reducible rfl | with_reducible assumption)) | exact (rfl : AV.idsLt _ _ = true) | exact (rfl : _ = AV.ren _ (.own _)) | exact (rfl : _ = AV.ren _ (.fn _ _)) | exact (rfl : _ = AV.ren _ (.gh _)) | (exact congrArg intV (by assumption)) | (refine congrArg intV ((wr_id (by omega) (by omega)).trans (by omega))) | exact rfl | (simp only [NLc]; first | exact rfl | done) | exact all0 | exact fun h => Bool.noConfusion h | exact fun _ _ _ _ => rfl | omega)
  · obtain rfl : i = k := by omega
    have hmod := st_mod (x := x) (m := i) hd0
    conv => whnf
    repeat' (first
      | (refine NilG.mk fun bn hbn hbx => ?_; conv => whnf)
      | (refine Both.mk ?_ ?_ <;> conv => whnf)
      | ((first | (refine MkG.box 1 rfl rfl rfl (by decide) ?_) | (refine MkG.box 2 rfl rfl rfl (by decide) ?_) | (refine MkG.box 3 rfl rfl rfl (by decide) ?_) | (refine MkG.row ?_)); conv => whnf)
      | (refine LitG.row ?_; conv => whnf)
      | exact trivial
      | (refine Br.mk (fun hb => ?_) (fun hb => ?_) <;> (first | (exfalso; revert hb; decide) | ((try simp only [BL] at hb) <;> (try simp only [DL] at hb) <;> (first | (exfalso; omega) | (conv => whnf)))))
      | (refine And.intro ?_ ?_; (focus (first | exact id | exact rfl | exact trivial | (intro hg; first | exact hg | exact rfl | (simp; done) | (simp at hg ⊢; assumption)) | omega | decide | exact is2_c _ _ _ | exact is1_c _ _ | exact isS_c _ _ | exact isB_c _ _ | exact Nat.le_refl _ | assumption | exact mulLe (by decide) (by omega) | exact mulLe2 (by decide) (by omega) (by omega) | (intros; simp only [BL] at *; omega) | (intros; (try simp only [BL] at *); (try simp only [DL] at *); omega) | (intros; simp only [BL] at *; rw [wr_id (by omega) (by omega)]; omega) | (intro h1 h2; exact Bool.and_eq_true_iff.2 ⟨h1, h2⟩) | (intros; simp_all; done))); conv => whnf)
      | (refine Or.inr (And.intro rfl ?_); first | (refine congrArg intV ?_) | (refine congrArg boolV ?_) | (refine tupII ?_ ?_) | (refine tupIII ?_ ?_ ?_) | (refine tupU ?_ ?_ ?_ ?_ ?_) | exact rfl))
    rcases Decidable.em (d ∣ rSum x d i) with hdv | hdv
    · refine CallG.tb 1000000 rfl (FnT.mono (stRndY i d x hok hdv) ?_)
      rintro obs r ⟨rfl, rfl⟩
      have hz := hmod.2 hdv
      have hRb : ∀ k, k ≤ 12 → rSum x d k ≤ 132 := fun k hk => by
        have h1 := rSum_le (x := x) hd0 k
        have h2 : k * (d - 1) ≤ 12 * 11 := Nat.mul_le_mul (by omega) (by omega)
        omega
      conv => whnf
      repeat' (first
        | (refine NilG.mk fun bn hbn hbx => ?_; conv => whnf)
        | (refine Both.mk ?_ ?_ <;> conv => whnf)
        | ((first | (refine MkG.box 1 rfl rfl rfl (by decide) ?_) | (refine MkG.box 2 rfl rfl rfl (by decide) ?_) | (refine MkG.box 3 rfl rfl rfl (by decide) ?_) | (refine MkG.row ?_)); conv => whnf)
        | (refine LitG.row ?_; conv => whnf)
        | exact trivial
        | (refine Br.mk (fun hb => ?_) (fun hb => ?_) <;> (first | (exfalso; revert hb; decide) | ((try simp only [BL] at hb) <;> (try simp only [DL] at hb) <;> (first | (exfalso; omega) | (conv => whnf)))))
        | (refine And.intro ?_ ?_; (focus (first | exact id | exact rfl | exact trivial | (intro hg; first | exact hg | exact rfl | (simp; done) | (simp at hg ⊢; assumption)) | omega | decide | exact is2_c _ _ _ | exact is1_c _ _ | exact isS_c _ _ | exact isB_c _ _ | exact Nat.le_refl _ | assumption | exact mulLe (by decide) (by omega) | exact mulLe2 (by decide) (by omega) (by omega) | (intros; simp only [BL] at *; omega) | (intros; (try simp only [BL] at *); (try simp only [DL] at *); omega) | (intros; simp only [BL] at *; rw [wr_id (by omega) (by omega)]; omega) | (intro h1 h2; exact Bool.and_eq_true_iff.2 ⟨h1, h2⟩) | (intros; simp_all; done))); conv => whnf)
        | (refine Or.inr (And.intro rfl ?_); first | (refine congrArg intV ?_) | (refine congrArg boolV ?_) | (refine tupII ?_ ?_) | (refine tupIII ?_ ?_ ?_) | (refine tupU ?_ ?_ ?_ ?_ ?_) | exact rfl))
      refine sem_loop tab_ok gamLg_ok mixed (by kernel_rfl) (O := oTl) (fun k : Nat => ⟨[(0, .own 0), (3, .xp 1 (ccD d)), (15, .c (.sl 1 i (c1 (otS x d i (rSum x d i / d))))), (16, intV 0), (17, .fn 35 [.xp 1 (ccD d)]), (18, intV ((rSum x d k : Nat) : Int)), (124, .own 0), (125, intV (i : Int)), (126, intV (k : Int)), (1000000, .gt pwG pwC)], [.row 3 1 i false (c1 x)]⟩) (fun k => k ≤ i) (fun k => i - k) ⟨0, [?_], Nat.zero_le _, ?_⟩ fun k hk => ?_
      rotate_left 1
      · refine Sub.of ?_ ?_ ?_
        repeat' (first | (refine And.intro ?_ ?_) | exact trivial | exact fun _ _ _ => hsc _ _ | (exact congrArg intV (by first | with_reducible rfl | with_reducible assumption)) | exact (rfl : AV.idsLt _ _ = true) | exact (rfl : _ = AV.ren _ (.own _)) | exact (rfl : _ = AV.ren _ (.fn _ _)) | exact (rfl : _ = AV.ren _ (.gh _)) | (exact congrArg intV (by assumption)) | (refine congrArg intV ((wr_id (by omega) (by omega)).trans (by omega))) | exact rfl | (simp only [NLc]; first | exact rfl | done) | exact all0 | exact fun h => Bool.noConfusion h | exact fun _ _ _ _ => rfl | omega)
        all_goals skip
      rcases Nat.lt_or_ge k i with hki | hki
      · have hr1 := hRb (k + 1) (by omega)
        have hl := lft_lt (x := x k) hd0
        have es : IntKind.i64.wrap (((rSum x d k : Nat) : Int) + ((lft (x k) d : Nat) : Int)) = ((rSum x d (k + 1) : Nat) : Int) := by
          have h0 := hRb k (by omega)
          exact (wr_id (by omega) (by omega)).trans (Int.natCast_add _ _).symm
        conv => whnf
        repeat' (first
          | (refine NilG.mk fun bn hbn hbx => ?_; conv => whnf)
          | (refine Both.mk ?_ ?_ <;> conv => whnf)
          | ((first | (refine MkG.box 1 rfl rfl rfl (by decide) ?_) | (refine MkG.box 2 rfl rfl rfl (by decide) ?_) | (refine MkG.box 3 rfl rfl rfl (by decide) ?_) | (refine MkG.row ?_)); conv => whnf)
          | (refine LitG.row ?_; conv => whnf)
          | exact trivial
          | (refine Br.mk (fun hb => ?_) (fun hb => ?_) <;> (first | (exfalso; revert hb; decide) | ((try simp only [BL] at hb) <;> (try simp only [DL] at hb) <;> (first | (exfalso; omega) | (conv => whnf)))))
          | (refine And.intro ?_ ?_; (focus (first | exact id | exact rfl | exact trivial | (intro hg; first | exact hg | exact rfl | (simp; done) | (simp at hg ⊢; assumption)) | omega | decide | exact is2_c _ _ _ | exact is1_c _ _ | exact isS_c _ _ | exact isB_c _ _ | exact Nat.le_refl _ | assumption | exact mulLe (by decide) (by omega) | exact mulLe2 (by decide) (by omega) (by omega) | (intros; simp only [BL] at *; omega) | (intros; (try simp only [BL] at *); (try simp only [DL] at *); omega) | (intros; simp only [BL] at *; rw [wr_id (by omega) (by omega)]; omega) | (intro h1 h2; exact Bool.and_eq_true_iff.2 ⟨h1, h2⟩) | (intros; simp_all; done))); conv => whnf)
          | (refine Or.inr (And.intro rfl ?_); first | (refine congrArg intV ?_) | (refine congrArg boolV ?_) | (refine tupII ?_ ?_) | (refine tupIII ?_ ?_ ?_) | (refine tupU ?_ ?_ ?_ ?_ ?_) | exact rfl))
        refine CallG.mk (Fn.mono (stRest (x k) d hd0 hd) ?_)
        rintro obs r ⟨rfl, rfl⟩
        conv => whnf
        repeat' (first
          | (refine NilG.mk fun bn hbn hbx => ?_; conv => whnf)
          | (refine Both.mk ?_ ?_ <;> conv => whnf)
          | ((first | (refine MkG.box 1 rfl rfl rfl (by decide) ?_) | (refine MkG.box 2 rfl rfl rfl (by decide) ?_) | (refine MkG.box 3 rfl rfl rfl (by decide) ?_) | (refine MkG.row ?_)); conv => whnf)
          | (refine LitG.row ?_; conv => whnf)
          | exact trivial
          | (refine Br.mk (fun hb => ?_) (fun hb => ?_) <;> (first | (exfalso; revert hb; decide) | ((try simp only [BL] at hb) <;> (try simp only [DL] at hb) <;> (first | (exfalso; omega) | (conv => whnf)))))
          | (refine And.intro ?_ ?_; (focus (first | exact id | exact rfl | exact trivial | (intro hg; first | exact hg | exact rfl | (simp; done) | (simp at hg ⊢; assumption)) | omega | decide | exact is2_c _ _ _ | exact is1_c _ _ | exact isS_c _ _ | exact isB_c _ _ | exact Nat.le_refl _ | assumption | exact mulLe (by decide) (by omega) | exact mulLe2 (by decide) (by omega) (by omega) | (intros; simp only [BL] at *; omega) | (intros; (try simp only [BL] at *); (try simp only [DL] at *); omega) | (intros; simp only [BL] at *; rw [wr_id (by omega) (by omega)]; omega) | (intro h1 h2; exact Bool.and_eq_true_iff.2 ⟨h1, h2⟩) | (intros; simp_all; done))); conv => whnf)
          | (refine Or.inr (And.intro rfl ?_); first | (refine congrArg intV ?_) | (refine congrArg boolV ?_) | (refine tupII ?_ ?_) | (refine tupIII ?_ ?_ ?_) | (refine tupU ?_ ?_ ?_ ?_ ?_) | exact rfl))
        rw [es]
        refine ⟨k + 1, [?_], by omega, by omega, ?_⟩
        rotate_left 1
        refine Sub.of ?_ ?_ ?_
        repeat' (first | (refine And.intro ?_ ?_) | exact trivial | exact fun _ _ _ => hsc _ _ | (exact congrArg intV (by first | with_reducible rfl | with_reducible assumption)) | exact (rfl : AV.idsLt _ _ = true) | exact (rfl : _ = AV.ren _ (.own _)) | exact (rfl : _ = AV.ren _ (.fn _ _)) | exact (rfl : _ = AV.ren _ (.gh _)) | (exact congrArg intV (by assumption)) | (refine congrArg intV ((wr_id (by omega) (by omega)).trans (by omega))) | exact rfl | (simp only [NLc]; first | exact rfl | done) | exact all0 | exact fun h => Bool.noConfusion h | exact fun _ _ _ _ => rfl | omega)
        all_goals skip
      · obtain rfl : k = i := by omega
        have et : IntKind.i64.wrap (((rSum x d k : Nat) : Int).tdiv (d : Int)) = ((rSum x d k / d : Nat) : Int) := by
          rw [Int.tdiv_eq_ediv_of_nonneg (by omega), ← Int.natCast_ediv]
          have h2 : ∀ z : Nat, z ≤ 132 → IntKind.i64.wrap ((z : Nat) : Int) = ((z : Nat) : Int) := fun z hz => wr_id (by omega) (by omega)
          exact h2 _ (Nat.le_trans (Nat.div_le_self _ _) (hRb k hm))
        have htk : rSum x d k / d ≤ k := rSum_quo hd0
        conv => whnf
        repeat' (first
          | (refine NilG.mk fun bn hbn hbx => ?_; conv => whnf)
          | (refine Both.mk ?_ ?_ <;> conv => whnf)
          | ((first | (refine MkG.box 1 rfl rfl rfl (by decide) ?_) | (refine MkG.box 2 rfl rfl rfl (by decide) ?_) | (refine MkG.box 3 rfl rfl rfl (by decide) ?_) | (refine MkG.row ?_)); conv => whnf)
          | (refine LitG.row ?_; conv => whnf)
          | exact trivial
          | (refine Br.mk (fun hb => ?_) (fun hb => ?_) <;> (first | (exfalso; revert hb; decide) | ((try simp only [BL] at hb) <;> (try simp only [DL] at hb) <;> (first | (exfalso; omega) | (conv => whnf)))))
          | (refine And.intro ?_ ?_; (focus (first | exact id | exact rfl | exact trivial | (intro hg; first | exact hg | exact rfl | (simp; done) | (simp at hg ⊢; assumption)) | omega | decide | exact is2_c _ _ _ | exact is1_c _ _ | exact isS_c _ _ | exact isB_c _ _ | exact Nat.le_refl _ | assumption | exact mulLe (by decide) (by omega) | exact mulLe2 (by decide) (by omega) (by omega) | (intros; simp only [BL] at *; omega) | (intros; (try simp only [BL] at *); (try simp only [DL] at *); omega) | (intros; simp only [BL] at *; rw [wr_id (by omega) (by omega)]; omega) | (intro h1 h2; exact Bool.and_eq_true_iff.2 ⟨h1, h2⟩) | (intros; simp_all; done))); conv => whnf)
          | (refine Or.inr (And.intro rfl ?_); first | (refine congrArg intV ?_) | (refine congrArg boolV ?_) | (refine tupII ?_ ?_) | (refine tupIII ?_ ?_ ?_) | (refine tupU ?_ ?_ ?_ ?_ ?_) | exact rfl))
        · rcases hb with hb | hb <;> exact absurd trivial hb
        rw [et]
        generalize rSum x d k / d = t at *
        refine sem_loop tab_ok gamLg_ok mixed (by kernel_rfl) (O := oTl) (fun i : Nat => ⟨[(0, .own 0), (3, .xp 1 (ccD d)), (15, .c (.sl 1 k (c1 (otS x d k t)))), (17, .fn 35 [.xp 1 (ccD d)]), (18, intV ((t : Nat) : Int)), (148, .own 0), (149, intV (k : Int)), (150, intV (i : Int)), (1000000, .gt pwG pwC)], [.row 3 1 k false (c1 x)]⟩) (fun i => i ≤ k) (fun i => k - i) ⟨0, [?_], Nat.zero_le _, ?_⟩ fun i hi2 => ?_
        rotate_left 1
        · refine Sub.of ?_ ?_ ?_
          repeat' (first | (refine And.intro ?_ ?_) | exact trivial | exact fun _ _ _ => hsc _ _ | (exact congrArg intV (by first | with_reducible rfl | with_reducible assumption)) | exact (rfl : AV.idsLt _ _ = true) | exact (rfl : _ = AV.ren _ (.own _)) | exact (rfl : _ = AV.ren _ (.fn _ _)) | exact (rfl : _ = AV.ren _ (.gh _)) | (exact congrArg intV (by assumption)) | (refine congrArg intV ((wr_id (by omega) (by omega)).trans (by omega))) | exact rfl | (simp only [NLc]; first | exact rfl | done) | exact all0 | exact fun h => Bool.noConfusion h | exact fun _ _ _ _ => rfl | omega)
          all_goals skip
        rcases Nat.lt_or_ge i k with hik2 | hik2
        · have ri := stRest (x i) d hd0 hd
          have hli := lft_lt (x := x i) hd0
          conv => whnf
          repeat' (first
            | (refine NilG.mk fun bn hbn hbx => ?_; conv => whnf)
            | (refine Both.mk ?_ ?_ <;> conv => whnf)
            | ((first | (refine MkG.box 1 rfl rfl rfl (by decide) ?_) | (refine MkG.box 2 rfl rfl rfl (by decide) ?_) | (refine MkG.box 3 rfl rfl rfl (by decide) ?_) | (refine MkG.row ?_)); conv => whnf)
            | (refine LitG.row ?_; conv => whnf)
            | exact trivial
            | (refine Br.mk (fun hb => ?_) (fun hb => ?_) <;> (first | (exfalso; revert hb; decide) | ((try simp only [BL] at hb) <;> (try simp only [DL] at hb) <;> (first | (exfalso; omega) | (conv => whnf)))))
            | (refine And.intro ?_ ?_; (focus (first | exact id | exact rfl | exact trivial | (intro hg; first | exact hg | exact rfl | (simp; done) | (simp at hg ⊢; assumption)) | omega | decide | exact is2_c _ _ _ | exact is1_c _ _ | exact isS_c _ _ | exact isB_c _ _ | exact Nat.le_refl _ | assumption | exact mulLe (by decide) (by omega) | exact mulLe2 (by decide) (by omega) (by omega) | (intros; simp only [BL] at *; omega) | (intros; (try simp only [BL] at *); (try simp only [DL] at *); omega) | (intros; simp only [BL] at *; rw [wr_id (by omega) (by omega)]; omega) | (intro h1 h2; exact Bool.and_eq_true_iff.2 ⟨h1, h2⟩) | (intros; simp_all; done))); conv => whnf)
            | (refine Or.inr (And.intro rfl ?_); first | (refine congrArg intV ?_) | (refine congrArg boolV ?_) | (refine tupII ?_ ?_) | (refine tupIII ?_ ?_ ?_) | (refine tupU ?_ ?_ ?_ ?_ ?_) | exact rfl))
          refine sem_loop tab_ok gamLg_ok mixed (by kernel_rfl) (O := oTl) (fun j : Nat => ⟨[(0, .own 0), (3, .xp 1 (ccD d)), (15, .c (.sl 1 k (c1 (otS x d k t)))), (17, .fn 35 [.xp 1 (ccD d)]), (18, intV ((t : Nat) : Int)), (21, intV (i : Int)), (22, intV (x i)), (23, intV (S (fun a => if sLt (kyS x d) a i then 1 else 0) j)), (148, .own 0), (149, intV (k : Int)), (150, intV (i : Int)), (155, .own 0), (156, intV (k : Int)), (157, intV (j : Int)), (1000000, .gt pwG pwC)], [.row 3 1 k false (c1 x)]⟩) (fun j => j ≤ k) (fun j => k - j) ⟨0, [?_], Nat.zero_le _, ?_⟩ fun j hj => ?_
          rotate_left 1
          · refine Sub.of ?_ ?_ ?_
            repeat' (first | (refine And.intro ?_ ?_) | exact trivial | exact fun _ _ _ => hsc _ _ | (exact congrArg intV (by first | with_reducible rfl | with_reducible assumption)) | exact (rfl : AV.idsLt _ _ = true) | exact (rfl : _ = AV.ren _ (.own _)) | exact (rfl : _ = AV.ren _ (.fn _ _)) | exact (rfl : _ = AV.ren _ (.gh _)) | (exact congrArg intV (by assumption)) | (refine congrArg intV ((wr_id (by omega) (by omega)).trans (by omega))) | exact rfl | (simp only [NLc]; first | exact rfl | done) | exact all0 | exact fun h => Bool.noConfusion h | exact fun _ _ _ _ => rfl | omega)
            all_goals skip
          rcases Nat.lt_or_ge j k with hjk | hjk
          · have rj := stRest (x j) d hd0 hd
            have hslt : sLt (kyS x d) j i ↔ (lft (x i) d < lft (x j) d ∨ (lft (x j) d = lft (x i) d ∧ j < i)) := by
              unfold sLt kyS
              omega
            have hSs : S (fun a => if sLt (kyS x d) a i then 1 else 0) (j + 1) = S (fun a => if sLt (kyS x d) a i then (1 : Int) else 0) j + if sLt (kyS x d) j i then 1 else 0 := rfl
            have hSl := S_le (p := fun a => if sLt (kyS x d) a i then (1 : Int) else 0) (a := 0) (b := 1) (k := j) fun a _ => by
              show (0 : Int) ≤ (if sLt (kyS x d) a i then 1 else 0) ∧ (if sLt (kyS x d) a i then 1 else 0) ≤ (1 : Int)
              split <;> omega
            generalize hB : S (fun a => if sLt (kyS x d) a i then (1 : Int) else 0) j = B at *
            have wB : IntKind.i64.wrap (B + 1) = B + 1 := wr_id (by omega) (by omega)
            by_cases hgt : lft (x i) d < lft (x j) d
            · have hdec : decide (((lft (x j) d : Nat) : Int) > ((lft (x i) d : Nat) : Int)) = true := decide_eq_true (by omega)
              conv => whnf
              repeat' (first
                | (refine NilG.mk fun bn hbn hbx => ?_; conv => whnf)
                | (refine Both.mk ?_ ?_ <;> conv => whnf)
                | ((first | (refine MkG.box 1 rfl rfl rfl (by decide) ?_) | (refine MkG.box 2 rfl rfl rfl (by decide) ?_) | (refine MkG.box 3 rfl rfl rfl (by decide) ?_) | (refine MkG.row ?_)); conv => whnf)
                | (refine LitG.row ?_; conv => whnf)
                | exact trivial
                | (refine Br.mk (fun hb => ?_) (fun hb => ?_) <;> (first | (exfalso; revert hb; decide) | ((try simp only [BL] at hb) <;> (try simp only [DL] at hb) <;> (first | (exfalso; omega) | (conv => whnf)))))
                | (refine And.intro ?_ ?_; (focus (first | exact id | exact rfl | exact trivial | (intro hg; first | exact hg | exact rfl | (simp; done) | (simp at hg ⊢; assumption)) | omega | decide | exact is2_c _ _ _ | exact is1_c _ _ | exact isS_c _ _ | exact isB_c _ _ | exact Nat.le_refl _ | assumption | exact mulLe (by decide) (by omega) | exact mulLe2 (by decide) (by omega) (by omega) | (intros; simp only [BL] at *; omega) | (intros; (try simp only [BL] at *); (try simp only [DL] at *); omega) | (intros; simp only [BL] at *; rw [wr_id (by omega) (by omega)]; omega) | (intro h1 h2; exact Bool.and_eq_true_iff.2 ⟨h1, h2⟩) | (intros; simp_all; done))); conv => whnf)
                | (refine Or.inr (And.intro rfl ?_); first | (refine congrArg intV ?_) | (refine congrArg boolV ?_) | (refine tupII ?_ ?_) | (refine tupIII ?_ ?_ ?_) | (refine tupU ?_ ?_ ?_ ?_ ?_) | exact rfl))
              refine CallG.mk (Fn.mono rj ?_)
              rintro obs r ⟨rfl, rfl⟩
              conv => whnf
              repeat' (first
                | (refine NilG.mk fun bn hbn hbx => ?_; conv => whnf)
                | (refine Both.mk ?_ ?_ <;> conv => whnf)
                | ((first | (refine MkG.box 1 rfl rfl rfl (by decide) ?_) | (refine MkG.box 2 rfl rfl rfl (by decide) ?_) | (refine MkG.box 3 rfl rfl rfl (by decide) ?_) | (refine MkG.row ?_)); conv => whnf)
                | (refine LitG.row ?_; conv => whnf)
                | exact trivial
                | (refine Br.mk (fun hb => ?_) (fun hb => ?_) <;> (first | (exfalso; revert hb; decide) | ((try simp only [BL] at hb) <;> (try simp only [DL] at hb) <;> (first | (exfalso; omega) | (conv => whnf)))))
                | (refine And.intro ?_ ?_; (focus (first | exact id | exact rfl | exact trivial | (intro hg; first | exact hg | exact rfl | (simp; done) | (simp at hg ⊢; assumption)) | omega | decide | exact is2_c _ _ _ | exact is1_c _ _ | exact isS_c _ _ | exact isB_c _ _ | exact Nat.le_refl _ | assumption | exact mulLe (by decide) (by omega) | exact mulLe2 (by decide) (by omega) (by omega) | (intros; simp only [BL] at *; omega) | (intros; (try simp only [BL] at *); (try simp only [DL] at *); omega) | (intros; simp only [BL] at *; rw [wr_id (by omega) (by omega)]; omega) | (intro h1 h2; exact Bool.and_eq_true_iff.2 ⟨h1, h2⟩) | (intros; simp_all; done))); conv => whnf)
                | (refine Or.inr (And.intro rfl ?_); first | (refine congrArg intV ?_) | (refine congrArg boolV ?_) | (refine tupII ?_ ?_) | (refine tupIII ?_ ?_ ?_) | (refine tupU ?_ ?_ ?_ ?_ ?_) | exact rfl))
              refine CallG.mk (Fn.mono ri ?_)
              rintro obs r ⟨rfl, rfl⟩
              conv => whnf
              rw [hdec]
              conv => whnf
              repeat' (first
                | (refine NilG.mk fun bn hbn hbx => ?_; conv => whnf)
                | (refine Both.mk ?_ ?_ <;> conv => whnf)
                | ((first | (refine MkG.box 1 rfl rfl rfl (by decide) ?_) | (refine MkG.box 2 rfl rfl rfl (by decide) ?_) | (refine MkG.box 3 rfl rfl rfl (by decide) ?_) | (refine MkG.row ?_)); conv => whnf)
                | (refine LitG.row ?_; conv => whnf)
                | exact trivial
                | (refine Br.mk (fun hb => ?_) (fun hb => ?_) <;> (first | (exfalso; revert hb; decide) | ((try simp only [BL] at hb) <;> (try simp only [DL] at hb) <;> (first | (exfalso; omega) | (conv => whnf)))))
                | (refine And.intro ?_ ?_; (focus (first | exact id | exact rfl | exact trivial | (intro hg; first | exact hg | exact rfl | (simp; done) | (simp at hg ⊢; assumption)) | omega | decide | exact is2_c _ _ _ | exact is1_c _ _ | exact isS_c _ _ | exact isB_c _ _ | exact Nat.le_refl _ | assumption | exact mulLe (by decide) (by omega) | exact mulLe2 (by decide) (by omega) (by omega) | (intros; simp only [BL] at *; omega) | (intros; (try simp only [BL] at *); (try simp only [DL] at *); omega) | (intros; simp only [BL] at *; rw [wr_id (by omega) (by omega)]; omega) | (intro h1 h2; exact Bool.and_eq_true_iff.2 ⟨h1, h2⟩) | (intros; simp_all; done))); conv => whnf)
                | (refine Or.inr (And.intro rfl ?_); first | (refine congrArg intV ?_) | (refine congrArg boolV ?_) | (refine tupII ?_ ?_) | (refine tupIII ?_ ?_ ?_) | (refine tupU ?_ ?_ ?_ ?_ ?_) | exact rfl))
              all_goals repeat' (first
                | (refine fun (_ : _ = false) => ?_; ((conv => whnf); repeat' (first | (refine NilG.mk fun bn hbn hbx => ?_; conv => whnf) | (refine Both.mk ?_ ?_ <;> conv => whnf) | ((first | (refine MkG.box 1 rfl rfl rfl (by decide) ?_) | (refine MkG.box 2 rfl rfl rfl (by decide) ?_) | (refine MkG.box 3 rfl rfl rfl (by decide) ?_) | (refine MkG.row ?_)); conv => whnf) | (refine LitG.row ?_; conv => whnf) | exact trivial | (refine Br.mk (fun hb => ?_) (fun hb => ?_) <;> (first | (exfalso; revert hb; decide) | ((try simp only [BL] at hb) <;> (try simp only [DL] at hb) <;> conv => whnf))) | (refine And.intro ?_ ?_; (focus (first | exact id | exact rfl | exact trivial | (intro hg; first | exact hg | exact rfl | (simp; done) | (simp at hg ⊢; assumption)) | omega | decide | exact is2_c _ _ _ | exact is1_c _ _ | exact isS_c _ _ | exact isB_c _ _ | exact Nat.le_refl _ | assumption | exact mulLe (by decide) (by omega) | exact mulLe2 (by decide) (by omega) (by omega) | (intros; simp only [BL] at *; omega) | (intros; (try simp only [BL] at *); (try simp only [DL] at *); omega) | (intros; simp only [BL] at *; rw [wr_id (by omega) (by omega)]; omega) | (intro h1 h2; exact Bool.and_eq_true_iff.2 ⟨h1, h2⟩) | (intros; simp_all; done))); conv => whnf) | (refine Or.inr (And.intro rfl ?_); first | (refine congrArg intV ?_) | (refine congrArg boolV ?_) | (refine tupII ?_ ?_) | (refine tupIII ?_ ?_ ?_) | (refine tupU ?_ ?_ ?_ ?_ ?_) | exact rfl)))))
              have hyes : sLt (kyS x d) j i := hslt.2 (.inl hgt)
              rw [if_pos hyes] at hSs
              have wB2 : IntKind.i64.wrap (B + 1) = S (fun a => if sLt (kyS x d) a i then (1 : Int) else 0) (j + 1) := wB.trans hSs.symm
              refine ⟨j + 1, [?_], by omega, by omega, ?_⟩
              rotate_left 1
              refine Sub.of ?_ ?_ ?_
              repeat' (first | (refine And.intro ?_ ?_) | exact trivial | exact fun _ _ _ => hsc _ _ | (exact congrArg intV (by first | with_reducible rfl | with_reducible assumption)) | exact (rfl : AV.idsLt _ _ = true) | exact (rfl : _ = AV.ren _ (.own _)) | exact (rfl : _ = AV.ren _ (.fn _ _)) | exact (rfl : _ = AV.ren _ (.gh _)) | (exact congrArg intV (by assumption)) | (refine congrArg intV ((wr_id (by omega) (by omega)).trans (by omega))) | exact rfl | (simp only [NLc]; first | exact rfl | done) | exact all0 | exact fun h => Bool.noConfusion h | exact fun _ _ _ _ => rfl | omega)
            · have hdec : decide (((lft (x j) d : Nat) : Int) > ((lft (x i) d : Nat) : Int)) = false := decide_eq_false (by omega)
              conv => whnf
              repeat' (first
                | (refine NilG.mk fun bn hbn hbx => ?_; conv => whnf)
                | (refine Both.mk ?_ ?_ <;> conv => whnf)
                | ((first | (refine MkG.box 1 rfl rfl rfl (by decide) ?_) | (refine MkG.box 2 rfl rfl rfl (by decide) ?_) | (refine MkG.box 3 rfl rfl rfl (by decide) ?_) | (refine MkG.row ?_)); conv => whnf)
                | (refine LitG.row ?_; conv => whnf)
                | exact trivial
                | (refine Br.mk (fun hb => ?_) (fun hb => ?_) <;> (first | (exfalso; revert hb; decide) | ((try simp only [BL] at hb) <;> (try simp only [DL] at hb) <;> (first | (exfalso; omega) | (conv => whnf)))))
                | (refine And.intro ?_ ?_; (focus (first | exact id | exact rfl | exact trivial | (intro hg; first | exact hg | exact rfl | (simp; done) | (simp at hg ⊢; assumption)) | omega | decide | exact is2_c _ _ _ | exact is1_c _ _ | exact isS_c _ _ | exact isB_c _ _ | exact Nat.le_refl _ | assumption | exact mulLe (by decide) (by omega) | exact mulLe2 (by decide) (by omega) (by omega) | (intros; simp only [BL] at *; omega) | (intros; (try simp only [BL] at *); (try simp only [DL] at *); omega) | (intros; simp only [BL] at *; rw [wr_id (by omega) (by omega)]; omega) | (intro h1 h2; exact Bool.and_eq_true_iff.2 ⟨h1, h2⟩) | (intros; simp_all; done))); conv => whnf)
                | (refine Or.inr (And.intro rfl ?_); first | (refine congrArg intV ?_) | (refine congrArg boolV ?_) | (refine tupII ?_ ?_) | (refine tupIII ?_ ?_ ?_) | (refine tupU ?_ ?_ ?_ ?_ ?_) | exact rfl))
              refine CallG.mk (Fn.mono rj ?_)
              rintro obs r ⟨rfl, rfl⟩
              conv => whnf
              repeat' (first
                | (refine NilG.mk fun bn hbn hbx => ?_; conv => whnf)
                | (refine Both.mk ?_ ?_ <;> conv => whnf)
                | ((first | (refine MkG.box 1 rfl rfl rfl (by decide) ?_) | (refine MkG.box 2 rfl rfl rfl (by decide) ?_) | (refine MkG.box 3 rfl rfl rfl (by decide) ?_) | (refine MkG.row ?_)); conv => whnf)
                | (refine LitG.row ?_; conv => whnf)
                | exact trivial
                | (refine Br.mk (fun hb => ?_) (fun hb => ?_) <;> (first | (exfalso; revert hb; decide) | ((try simp only [BL] at hb) <;> (try simp only [DL] at hb) <;> (first | (exfalso; omega) | (conv => whnf)))))
                | (refine And.intro ?_ ?_; (focus (first | exact id | exact rfl | exact trivial | (intro hg; first | exact hg | exact rfl | (simp; done) | (simp at hg ⊢; assumption)) | omega | decide | exact is2_c _ _ _ | exact is1_c _ _ | exact isS_c _ _ | exact isB_c _ _ | exact Nat.le_refl _ | assumption | exact mulLe (by decide) (by omega) | exact mulLe2 (by decide) (by omega) (by omega) | (intros; simp only [BL] at *; omega) | (intros; (try simp only [BL] at *); (try simp only [DL] at *); omega) | (intros; simp only [BL] at *; rw [wr_id (by omega) (by omega)]; omega) | (intro h1 h2; exact Bool.and_eq_true_iff.2 ⟨h1, h2⟩) | (intros; simp_all; done))); conv => whnf)
                | (refine Or.inr (And.intro rfl ?_); first | (refine congrArg intV ?_) | (refine congrArg boolV ?_) | (refine tupII ?_ ?_) | (refine tupIII ?_ ?_ ?_) | (refine tupU ?_ ?_ ?_ ?_ ?_) | exact rfl))
              refine CallG.mk (Fn.mono ri ?_)
              rintro obs r ⟨rfl, rfl⟩
              conv => whnf
              repeat' (first
                | (refine NilG.mk fun bn hbn hbx => ?_; conv => whnf)
                | (refine Both.mk ?_ ?_ <;> conv => whnf)
                | ((first | (refine MkG.box 1 rfl rfl rfl (by decide) ?_) | (refine MkG.box 2 rfl rfl rfl (by decide) ?_) | (refine MkG.box 3 rfl rfl rfl (by decide) ?_) | (refine MkG.row ?_)); conv => whnf)
                | (refine LitG.row ?_; conv => whnf)
                | exact trivial
                | (refine Br.mk (fun hb => ?_) (fun hb => ?_) <;> (first | (exfalso; revert hb; decide) | ((try simp only [BL] at hb) <;> (try simp only [DL] at hb) <;> (first | (exfalso; omega) | (conv => whnf)))))
                | (refine And.intro ?_ ?_; (focus (first | exact id | exact rfl | exact trivial | (intro hg; first | exact hg | exact rfl | (simp; done) | (simp at hg ⊢; assumption)) | omega | decide | exact is2_c _ _ _ | exact is1_c _ _ | exact isS_c _ _ | exact isB_c _ _ | exact Nat.le_refl _ | assumption | exact mulLe (by decide) (by omega) | exact mulLe2 (by decide) (by omega) (by omega) | (intros; simp only [BL] at *; omega) | (intros; (try simp only [BL] at *); (try simp only [DL] at *); omega) | (intros; simp only [BL] at *; rw [wr_id (by omega) (by omega)]; omega) | (intro h1 h2; exact Bool.and_eq_true_iff.2 ⟨h1, h2⟩) | (intros; simp_all; done))); conv => whnf)
                | (refine Or.inr (And.intro rfl ?_); first | (refine congrArg intV ?_) | (refine congrArg boolV ?_) | (refine tupII ?_ ?_) | (refine tupIII ?_ ?_ ?_) | (refine tupU ?_ ?_ ?_ ?_ ?_) | exact rfl))
              all_goals repeat' (first
                | (refine CallG.mk (Fn.mono rj ?_); rintro obs r ⟨rfl, rfl⟩; ((conv => whnf); repeat' (first | (refine NilG.mk fun bn hbn hbx => ?_; conv => whnf) | (refine Both.mk ?_ ?_ <;> conv => whnf) | ((first | (refine MkG.box 1 rfl rfl rfl (by decide) ?_) | (refine MkG.box 2 rfl rfl rfl (by decide) ?_) | (refine MkG.box 3 rfl rfl rfl (by decide) ?_) | (refine MkG.row ?_)); conv => whnf) | (refine LitG.row ?_; conv => whnf) | exact trivial | (refine Br.mk (fun hb => ?_) (fun hb => ?_) <;> (first | (exfalso; revert hb; decide) | ((try simp only [BL] at hb) <;> (try simp only [DL] at hb) <;> conv => whnf))) | (refine And.intro ?_ ?_; (focus (first | exact id | exact rfl | exact trivial | (intro hg; first | exact hg | exact rfl | (simp; done) | (simp at hg ⊢; assumption)) | omega | decide | exact is2_c _ _ _ | exact is1_c _ _ | exact isS_c _ _ | exact isB_c _ _ | exact Nat.le_refl _ | assumption | exact mulLe (by decide) (by omega) | exact mulLe2 (by decide) (by omega) (by omega) | (intros; simp only [BL] at *; omega) | (intros; (try simp only [BL] at *); (try simp only [DL] at *); omega) | (intros; simp only [BL] at *; rw [wr_id (by omega) (by omega)]; omega) | (intro h1 h2; exact Bool.and_eq_true_iff.2 ⟨h1, h2⟩) | (intros; simp_all; done))); conv => whnf) | (refine Or.inr (And.intro rfl ?_); first | (refine congrArg intV ?_) | (refine congrArg boolV ?_) | (refine tupII ?_ ?_) | (refine tupIII ?_ ?_ ?_) | (refine tupU ?_ ?_ ?_ ?_ ?_) | exact rfl))))
                | (refine CallG.mk (Fn.mono ri ?_); rintro obs r ⟨rfl, rfl⟩; ((conv => whnf); repeat' (first | (refine NilG.mk fun bn hbn hbx => ?_; conv => whnf) | (refine Both.mk ?_ ?_ <;> conv => whnf) | ((first | (refine MkG.box 1 rfl rfl rfl (by decide) ?_) | (refine MkG.box 2 rfl rfl rfl (by decide) ?_) | (refine MkG.box 3 rfl rfl rfl (by decide) ?_) | (refine MkG.row ?_)); conv => whnf) | (refine LitG.row ?_; conv => whnf) | exact trivial | (refine Br.mk (fun hb => ?_) (fun hb => ?_) <;> (first | (exfalso; revert hb; decide) | ((try simp only [BL] at hb) <;> (try simp only [DL] at hb) <;> conv => whnf))) | (refine And.intro ?_ ?_; (focus (first | exact id | exact rfl | exact trivial | (intro hg; first | exact hg | exact rfl | (simp; done) | (simp at hg ⊢; assumption)) | omega | decide | exact is2_c _ _ _ | exact is1_c _ _ | exact isS_c _ _ | exact isB_c _ _ | exact Nat.le_refl _ | assumption | exact mulLe (by decide) (by omega) | exact mulLe2 (by decide) (by omega) (by omega) | (intros; simp only [BL] at *; omega) | (intros; (try simp only [BL] at *); (try simp only [DL] at *); omega) | (intros; simp only [BL] at *; rw [wr_id (by omega) (by omega)]; omega) | (intro h1 h2; exact Bool.and_eq_true_iff.2 ⟨h1, h2⟩) | (intros; simp_all; done))); conv => whnf) | (refine Or.inr (And.intro rfl ?_); first | (refine congrArg intV ?_) | (refine congrArg boolV ?_) | (refine tupII ?_ ?_) | (refine tupIII ?_ ?_ ?_) | (refine tupU ?_ ?_ ?_ ?_ ?_) | exact rfl))))
                | (refine And.intro (fun hg => ?_) (fun hg => absurd hg (by rw [hdec]; exact Bool.noConfusion)); ((conv => whnf); repeat' (first | (refine NilG.mk fun bn hbn hbx => ?_; conv => whnf) | (refine Both.mk ?_ ?_ <;> conv => whnf) | ((first | (refine MkG.box 1 rfl rfl rfl (by decide) ?_) | (refine MkG.box 2 rfl rfl rfl (by decide) ?_) | (refine MkG.box 3 rfl rfl rfl (by decide) ?_) | (refine MkG.row ?_)); conv => whnf) | (refine LitG.row ?_; conv => whnf) | exact trivial | (refine Br.mk (fun hb => ?_) (fun hb => ?_) <;> (first | (exfalso; revert hb; decide) | ((try simp only [BL] at hb) <;> (try simp only [DL] at hb) <;> conv => whnf))) | (refine And.intro ?_ ?_; (focus (first | exact id | exact rfl | exact trivial | (intro hg; first | exact hg | exact rfl | (simp; done) | (simp at hg ⊢; assumption)) | omega | decide | exact is2_c _ _ _ | exact is1_c _ _ | exact isS_c _ _ | exact isB_c _ _ | exact Nat.le_refl _ | assumption | exact mulLe (by decide) (by omega) | exact mulLe2 (by decide) (by omega) (by omega) | (intros; simp only [BL] at *; omega) | (intros; (try simp only [BL] at *); (try simp only [DL] at *); omega) | (intros; simp only [BL] at *; rw [wr_id (by omega) (by omega)]; omega) | (intro h1 h2; exact Bool.and_eq_true_iff.2 ⟨h1, h2⟩) | (intros; simp_all; done))); conv => whnf) | (refine Or.inr (And.intro rfl ?_); first | (refine congrArg intV ?_) | (refine congrArg boolV ?_) | (refine tupII ?_ ?_) | (refine tupIII ?_ ?_ ?_) | (refine tupU ?_ ?_ ?_ ?_ ?_) | exact rfl)))))
              · have hyes : sLt (kyS x d) j i := hslt.2 (by omega)
                rw [if_pos hyes] at hSs
                have wB2 : IntKind.i64.wrap (B + 1) = S (fun a => if sLt (kyS x d) a i then (1 : Int) else 0) (j + 1) := wB.trans hSs.symm
                refine ⟨j + 1, [?_], by omega, by omega, ?_⟩
                rotate_left 1
                refine Sub.of ?_ ?_ ?_
                repeat' (first | (refine And.intro ?_ ?_) | exact trivial | exact fun _ _ _ => hsc _ _ | (exact congrArg intV (by first | with_reducible rfl | with_reducible assumption)) | exact (rfl : AV.idsLt _ _ = true) | exact (rfl : _ = AV.ren _ (.own _)) | exact (rfl : _ = AV.ren _ (.fn _ _)) | exact (rfl : _ = AV.ren _ (.gh _)) | (exact congrArg intV (by assumption)) | (refine congrArg intV ((wr_id (by omega) (by omega)).trans (by omega))) | exact rfl | (simp only [NLc]; first | exact rfl | done) | exact all0 | exact fun h => Bool.noConfusion h | exact fun _ _ _ _ => rfl | omega)
              · have hno : ¬ sLt (kyS x d) j i := fun h => by
                  have := hslt.1 h
                  omega
                rw [if_neg hno, Int.add_zero] at hSs
                have wB2 : B = S (fun a => if sLt (kyS x d) a i then (1 : Int) else 0) (j + 1) := hSs.symm
                refine ⟨j + 1, [?_], by omega, by omega, ?_⟩
                rotate_left 1
                refine Sub.of ?_ ?_ ?_
                repeat' (first | (refine And.intro ?_ ?_) | exact trivial | exact fun _ _ _ => hsc _ _ | (exact congrArg intV (by first | with_reducible rfl | with_reducible assumption)) | exact (rfl : AV.idsLt _ _ = true) | exact (rfl : _ = AV.ren _ (.own _)) | exact (rfl : _ = AV.ren _ (.fn _ _)) | exact (rfl : _ = AV.ren _ (.gh _)) | (exact congrArg intV (by assumption)) | (refine congrArg intV ((wr_id (by omega) (by omega)).trans (by omega))) | exact rfl | (simp only [NLc]; first | exact rfl | done) | exact all0 | exact fun h => Bool.noConfusion h | exact fun _ _ _ _ => rfl | omega)
          · obtain rfl : j = k := by omega
            have hadd := lft_add (x := x i) hd0
            have hqb := quo_bnd hd0 (hxb i)
            have hxi := hxb i
            have e1 : IntKind.i64.wrap (x i - ((lft (x i) d : Nat) : Int)) = (d : Int) * (x i / (d : Int)) := by
              have h : x i - ((lft (x i) d : Nat) : Int) = (d : Int) * (x i / (d : Int)) := by
                generalize (d : Int) * (x i / (d : Int)) = z at *
                omega
              rw [← h]
              exact wr_id (by omega) (by omega)
            have e2 : IntKind.i64.wrap (((d : Int) * (x i / (d : Int))).tdiv (d : Int)) = x i / (d : Int) := by
              rw [Int.mul_tdiv_cancel_left _ (by omega)]
              generalize x i / (d : Int) = z at *
              exact wr_id (by omega) (by omega)
            have e3 : IntKind.i64.wrap (x i / (d : Int) + 1) = x i / (d : Int) + 1 := by
              generalize x i / (d : Int) = z at *
              exact wr_id (by omega) (by omega)
            have hbf : S (fun a => if sLt (kyS x d) a i then (1 : Int) else 0) j = bfS x d j i := rfl
            rw [hbf]
            have hot : otS x d j t i = x i / (d : Int) + if bfS x d j i < t then 1 else 0 := rfl
            have hdz : ((d : Nat) : Int) ≠ 0 := by omega
            conv => whnf
            repeat' (first
              | (refine NilG.mk fun bn hbn hbx => ?_; conv => whnf)
              | (refine Both.mk ?_ ?_ <;> conv => whnf)
              | ((first | (refine MkG.box 1 rfl rfl rfl (by decide) ?_) | (refine MkG.box 2 rfl rfl rfl (by decide) ?_) | (refine MkG.box 3 rfl rfl rfl (by decide) ?_) | (refine MkG.row ?_)); conv => whnf)
              | (refine LitG.row ?_; conv => whnf)
              | exact trivial
              | (refine Br.mk (fun hb => ?_) (fun hb => ?_) <;> (first | (exfalso; revert hb; decide) | ((try simp only [BL] at hb) <;> (try simp only [DL] at hb) <;> (first | (exfalso; omega) | (conv => whnf)))))
              | (refine And.intro ?_ ?_; (focus (first | exact id | exact rfl | exact trivial | (intro hg; first | exact hg | exact rfl | (simp; done) | (simp at hg ⊢; assumption)) | omega | decide | exact is2_c _ _ _ | exact is1_c _ _ | exact isS_c _ _ | exact isB_c _ _ | exact Nat.le_refl _ | assumption | exact mulLe (by decide) (by omega) | exact mulLe2 (by decide) (by omega) (by omega) | (intros; simp only [BL] at *; omega) | (intros; (try simp only [BL] at *); (try simp only [DL] at *); omega) | (intros; simp only [BL] at *; rw [wr_id (by omega) (by omega)]; omega) | (intro h1 h2; exact Bool.and_eq_true_iff.2 ⟨h1, h2⟩) | (intros; simp_all; done))); conv => whnf)
              | (refine Or.inr (And.intro rfl ?_); first | (refine congrArg intV ?_) | (refine congrArg boolV ?_) | (refine tupII ?_ ?_) | (refine tupIII ?_ ?_ ?_) | (refine tupU ?_ ?_ ?_ ?_ ?_) | exact rfl))
            all_goals
              refine CallG.mk (Fn.mono ri ?_)
              rintro obs r ⟨rfl, rfl⟩
              conv => whnf
              repeat' (first
                | (refine NilG.mk fun bn hbn hbx => ?_; conv => whnf)
                | (refine Both.mk ?_ ?_ <;> conv => whnf)
                | ((first | (refine MkG.box 1 rfl rfl rfl (by decide) ?_) | (refine MkG.box 2 rfl rfl rfl (by decide) ?_) | (refine MkG.box 3 rfl rfl rfl (by decide) ?_) | (refine MkG.row ?_)); conv => whnf)
                | (refine LitG.row ?_; conv => whnf)
                | exact trivial
                | (refine Br.mk (fun hb => ?_) (fun hb => ?_) <;> (first | (exfalso; revert hb; decide) | ((try simp only [BL] at hb) <;> (try simp only [DL] at hb) <;> (first | (exfalso; omega) | (conv => whnf)))))
                | (refine And.intro ?_ ?_; (focus (first | exact id | exact rfl | exact trivial | (intro hg; first | exact hg | exact rfl | (simp; done) | (simp at hg ⊢; assumption)) | omega | decide | exact is2_c _ _ _ | exact is1_c _ _ | exact isS_c _ _ | exact isB_c _ _ | exact Nat.le_refl _ | assumption | exact mulLe (by decide) (by omega) | exact mulLe2 (by decide) (by omega) (by omega) | (intros; simp only [BL] at *; omega) | (intros; (try simp only [BL] at *); (try simp only [DL] at *); omega) | (intros; simp only [BL] at *; rw [wr_id (by omega) (by omega)]; omega) | (intro h1 h2; exact Bool.and_eq_true_iff.2 ⟨h1, h2⟩) | (intros; simp_all; done))); conv => whnf)
                | (refine Or.inr (And.intro rfl ?_); first | (refine congrArg intV ?_) | (refine congrArg boolV ?_) | (refine tupII ?_ ?_) | (refine tupIII ?_ ?_ ?_) | (refine tupU ?_ ?_ ?_ ?_ ?_) | exact rfl))
              · rename_i h1
                rw [e1, e2, e3, hot, if_pos h1] at hb
                exact absurd rfl hb
              · refine ⟨i + 1, [?_], by omega, by omega, ?_⟩
                rotate_left 1
                refine Sub.of ?_ ?_ ?_
                repeat' (first | (refine And.intro ?_ ?_) | exact trivial | exact fun _ _ _ => hsc _ _ | (exact congrArg intV (by first | with_reducible rfl | with_reducible assumption)) | exact (rfl : AV.idsLt _ _ = true) | exact (rfl : _ = AV.ren _ (.own _)) | exact (rfl : _ = AV.ren _ (.fn _ _)) | exact (rfl : _ = AV.ren _ (.gh _)) | (exact congrArg intV (by assumption)) | (refine congrArg intV ((wr_id (by omega) (by omega)).trans (by omega))) | exact rfl | (simp only [NLc]; first | exact rfl | done) | exact all0 | exact fun h => Bool.noConfusion h | exact fun _ _ _ _ => rfl | omega)
              · rename_i h1
                rw [e1, e2, hot, if_neg h1, Int.add_zero] at hb
                exact absurd rfl hb
              · refine ⟨i + 1, [?_], by omega, by omega, ?_⟩
                rotate_left 1
                refine Sub.of ?_ ?_ ?_
                repeat' (first | (refine And.intro ?_ ?_) | exact trivial | exact fun _ _ _ => hsc _ _ | (exact congrArg intV (by first | with_reducible rfl | with_reducible assumption)) | exact (rfl : AV.idsLt _ _ = true) | exact (rfl : _ = AV.ren _ (.own _)) | exact (rfl : _ = AV.ren _ (.fn _ _)) | exact (rfl : _ = AV.ren _ (.gh _)) | (exact congrArg intV (by assumption)) | (refine congrArg intV ((wr_id (by omega) (by omega)).trans (by omega))) | exact rfl | (simp only [NLc]; first | exact rfl | done) | exact all0 | exact fun h => Bool.noConfusion h | exact fun _ _ _ _ => rfl | omega)
        · conv => whnf
          repeat' (first
            | (refine NilG.mk fun bn hbn hbx => ?_; conv => whnf)
            | (refine Both.mk ?_ ?_ <;> conv => whnf)
            | ((first | (refine MkG.box 1 rfl rfl rfl (by decide) ?_) | (refine MkG.box 2 rfl rfl rfl (by decide) ?_) | (refine MkG.box 3 rfl rfl rfl (by decide) ?_) | (refine MkG.row ?_)); conv => whnf)
            | (refine LitG.row ?_; conv => whnf)
            | exact trivial
            | (refine Br.mk (fun hb => ?_) (fun hb => ?_) <;> (first | (exfalso; revert hb; decide) | ((try simp only [BL] at hb) <;> (try simp only [DL] at hb) <;> (first | (exfalso; omega) | (conv => whnf)))))
            | (refine And.intro ?_ ?_; (focus (first | exact id | exact rfl | exact trivial | (intro hg; first | exact hg | exact rfl | (simp; done) | (simp at hg ⊢; assumption)) | omega | decide | exact is2_c _ _ _ | exact is1_c _ _ | exact isS_c _ _ | exact isB_c _ _ | exact Nat.le_refl _ | assumption | exact mulLe (by decide) (by omega) | exact mulLe2 (by decide) (by omega) (by omega) | (intros; simp only [BL] at *; omega) | (intros; (try simp only [BL] at *); (try simp only [DL] at *); omega) | (intros; simp only [BL] at *; rw [wr_id (by omega) (by omega)]; omega) | (intro h1 h2; exact Bool.and_eq_true_iff.2 ⟨h1, h2⟩) | (intros; simp_all; done))); conv => whnf)
            | (refine Or.inr (And.intro rfl ?_); first | (refine congrArg intV ?_) | (refine congrArg boolV ?_) | (refine tupII ?_ ?_) | (refine tupIII ?_ ?_ ?_) | (refine tupU ?_ ?_ ?_ ?_ ?_) | exact rfl))
          rfl
    · refine CallG.tb 1000000 rfl (FnT.mono (stRndN i d x hok hdv) ?_)
      rintro obs r ⟨rfl, rfl⟩
      have hz : ¬ (S x i).tmod (d : Int) = 0 := fun h => hdv (hmod.1 h)
      conv => whnf
      repeat' (first
        | (refine NilG.mk fun bn hbn hbx => ?_; conv => whnf)
        | (refine Both.mk ?_ ?_ <;> conv => whnf)
        | ((first | (refine MkG.box 1 rfl rfl rfl (by decide) ?_) | (refine MkG.box 2 rfl rfl rfl (by decide) ?_) | (refine MkG.box 3 rfl rfl rfl (by decide) ?_) | (refine MkG.row ?_)); conv => whnf)
        | (refine LitG.row ?_; conv => whnf)
        | exact trivial
        | (refine Br.mk (fun hb => ?_) (fun hb => ?_) <;> (first | (exfalso; revert hb; decide) | ((try simp only [BL] at hb) <;> (try simp only [DL] at hb) <;> (first | (exfalso; omega) | (conv => whnf)))))
        | (refine And.intro ?_ ?_; (focus (first | exact id | exact rfl | exact trivial | (intro hg; first | exact hg | exact rfl | (simp; done) | (simp at hg ⊢; assumption)) | omega | decide | exact is2_c _ _ _ | exact is1_c _ _ | exact isS_c _ _ | exact isB_c _ _ | exact Nat.le_refl _ | assumption | exact mulLe (by decide) (by omega) | exact mulLe2 (by decide) (by omega) (by omega) | (intros; simp only [BL] at *; omega) | (intros; (try simp only [BL] at *); (try simp only [DL] at *); omega) | (intros; simp only [BL] at *; rw [wr_id (by omega) (by omega)]; omega) | (intro h1 h2; exact Bool.and_eq_true_iff.2 ⟨h1, h2⟩) | (intros; simp_all; done))); conv => whnf)
        | (refine Or.inr (And.intro rfl ?_); first | (refine congrArg intV ?_) | (refine congrArg boolV ?_) | (refine tupII ?_ ?_) | (refine tupIII ?_ ?_ ?_) | (refine tupU ?_ ?_ ?_ ?_ ?_) | exact rfl))
      rfl
end Go.Proofs.YtjfnhehjhicnoaaDoor
