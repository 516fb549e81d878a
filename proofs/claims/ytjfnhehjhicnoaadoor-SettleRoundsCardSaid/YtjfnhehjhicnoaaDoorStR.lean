/-
  SettleRounds: settle.round.
-/
import Derived.Test.YtjfnhehjhicnoaaDoorRaA
import Derived.Test.YtjfnhehjhicnoaaDoorSrtP
import Derived.Test.YtjfnhehjhicnoaaDoorStF
import Derived.Test.YtjfnhehjhicnoaaDoorStS
namespace Go.Proofs.YtjfnhehjhicnoaaDoor
open Go.RowKit

section
variable {x : Int} {d : Nat}
theorem red_gcd_pos (hd : 0 < d) : (0 : Int) < (Nat.gcd x.natAbs d : Int) := by
  have := Nat.gcd_pos_of_pos_right x.natAbs hd
  omega
theorem st_floor (hd : 0 < d) : redN x d / ((redD x d : Nat) : Int) = x / (d : Int) := by
  have h1 := redN_mul x d
  have h2 : ((redD x d : Nat) : Int) * (Nat.gcd x.natAbs d : Int) = (d : Int) := by rw [← Int.natCast_mul, redD_mul]
  conv => rhs; rw [← h1, ← h2]
  have e := Int.mul_ediv_mul_of_pos (redN x d) ((redD x d : Nat) : Int) (red_gcd_pos (x := x) hd)
  rw [Int.mul_comm (Nat.gcd x.natAbs d : Int), Int.mul_comm (Nat.gcd x.natAbs d : Int)] at e
  exact e.symm
/-- what is left of a number over its floor -/
def lft (x : Int) (d : Nat) : Nat := (x % (d : Int)).toNat
theorem lft_eq (hd : 0 < d) : ((lft x d : Nat) : Int) = x % (d : Int) := Int.toNat_of_nonneg (Int.emod_nonneg _ (by omega))
theorem lft_lt (hd : 0 < d) : lft x d < d := by
  have h1 := lft_eq (x := x) hd
  have h2 := Int.emod_lt_of_pos x (show (0 : Int) < d by omega)
  omega
theorem lft_add (hd : 0 < d) : x = (d : Int) * (x / (d : Int)) + ((lft x d : Nat) : Int) := by
  rw [lft_eq hd]
  exact (Int.mul_ediv_add_emod x d).symm
theorem st_rest (hd : 0 < d) : redN (redN x d * ((1 : Nat) : Int) + -(x / (d : Int)) * ((redD x d : Nat) : Int)) (redD x d * 1) = redN ((lft x d : Nat) : Int) d ∧ redD (redN x d * ((1 : Nat) : Int) + -(x / (d : Int)) * ((redD x d : Nat) : Int)) (redD x d * 1) = redD ((lft x d : Nat) : Int) d := by
  have hp := redD_pos (n := x) hd
  refine red_uniq (by omega) hd ?_
  have h1 := red_cross x hd
  have h2 := lft_add (x := x) hd
  generalize x / (d : Int) = F at *
  generalize ((lft x d : Nat) : Int) = r at *
  rw [Int.natCast_mul]
  generalize redN x d = N at *
  generalize ((redD x d : Nat) : Int) = D at *
  grind
theorem st_sum {S r : Nat} (hd : 0 < d) : redN (redN (S : Int) d * ((redD (r : Int) d : Nat) : Int) + redN (r : Int) d * ((redD (S : Int) d : Nat) : Int)) (redD (S : Int) d * redD (r : Int) d) = redN ((S + r : Nat) : Int) d ∧ redD (redN (S : Int) d * ((redD (r : Int) d : Nat) : Int) + redN (r : Int) d * ((redD (S : Int) d : Nat) : Int)) (redD (S : Int) d * redD (r : Int) d) = redD ((S + r : Nat) : Int) d := by
  have hp1 := redD_pos (n := (S : Int)) hd
  have hp2 := redD_pos (n := (r : Int)) hd
  refine red_uniq (Nat.mul_pos hp1 hp2) hd ?_
  have h1 := red_cross (S : Int) hd
  have h2 := red_cross (r : Int) hd
  rw [Int.natCast_mul, Int.natCast_add]
  generalize redN (S : Int) d = a at *
  generalize redN (r : Int) d = b at *
  generalize ((redD (S : Int) d : Nat) : Int) = p at *
  generalize ((redD (r : Int) d : Nat) : Int) = q at *
  grind
theorem red_0 (hd : 0 < d) : redN 0 d = 0 ∧ redD 0 d = 1 := by
  have h := red_uniq (n := 0) (n' := 0) (d := d) (d' := 1) hd (by decide) (by simp)
  have h2 := red_id (n := 0) (d := 1) (by decide)
  rw [h2.1, h2.2] at h
  exact h
theorem red_one {R : Nat} (hd : 0 < d) : redD (R : Int) d = 1 ↔ d ∣ R := by
  have h := redD_mul (R : Int) d
  rw [Int.natAbs_natCast] at h
  constructor
  · intro h1
    rw [h1, Nat.one_mul] at h
    rw [← h]
    exact Nat.gcd_dvd_left R d
  · intro h1
    have hg : Nat.gcd R d = d := Nat.gcd_eq_right h1
    rw [hg] at h
    have := Nat.eq_of_mul_eq_mul_right hd (h.trans (Nat.one_mul d).symm)
    exact this
theorem red_quo {R : Nat} (hd : 0 < d) (h : d ∣ R) : redN (R : Int) d = ((R / d : Nat) : Int) := by
  unfold redN
  rw [Int.natAbs_natCast, Nat.gcd_eq_right h]
  exact (Int.natCast_ediv R d).symm
end
/-- the sum of what is left -/
def rSum (x : Nat → Int) (d : Nat) : Nat → Nat
  | 0 => 0
  | k + 1 => rSum x d k + lft (x k) d
theorem rSum_le {x : Nat → Int} {d : Nat} (hd : 0 < d) : ∀ m, rSum x d m ≤ m * (d - 1)
  | 0 => by simp [rSum]
  | m + 1 => by
    have h1 := rSum_le (x := x) hd m
    have h2 := lft_lt (x := x m) hd
    rw [Nat.add_mul, Nat.one_mul]
    show rSum x d m + lft (x m) d ≤ _
    omega
theorem rSum_quo {x : Nat → Int} {d m : Nat} (hd : 0 < d) : rSum x d m / d ≤ m := by
  have h1 := rSum_le (x := x) hd m
  have h2 : m * (d - 1) ≤ m * d := Nat.mul_le_mul_left _ (Nat.sub_le _ _)
  exact Nat.div_le_of_le_mul (by rw [Nat.mul_comm]; omega)
/-- the keys by which is sorted, and how many lie before an element -/
def kyS (x : Nat → Int) (d : Nat) (k : Nat) : Int := -((lft (x k) d : Nat) : Int)
def bfS (x : Nat → Int) (d m i : Nat) : Int := S (fun k => if sLt (kyS x d) k i then 1 else 0) m
/-- the rounded numbers, when t of them have got one more -/
def otS (x : Nat → Int) (d m t i : Nat) : Int := x i / (d : Int) + if bfS x d m i < t then 1 else 0
theorem quo_bnd {x : Int} {d : Nat} (hd : 0 < d) (hx : x.natAbs ≤ 999) : (x / (d : Int)).natAbs ≤ 999 := by
  have h := lft_add (x := x) hd
  have h2 := lft_lt (x := x) hd
  by_cases h0 : 0 ≤ x / (d : Int)
  · have h3 := Int.mul_le_mul_of_nonneg_right (show (1 : Int) ≤ d by omega) h0
    omega
  · have h3 : (d : Int) * (x / (d : Int)) + (d : Int) ≤ x / (d : Int) + 1 := by
      have h4 := Int.mul_le_mul_of_nonneg_right (show (1 : Int) ≤ d by omega) (show (0 : Int) ≤ -(x / (d : Int)) - 1 by omega)
      grind
    omega
end Go.Proofs.YtjfnhehjhicnoaaDoor

namespace Go.Proofs.YtjfnhehjhicnoaaDoor
open Go.RowKit

/-- the amounts, and what is left of them, in lowest terms -/
def amN (x : Nat → Int) (d : Nat) : Nat → Int := fun k => redN (x k) d
def amD (x : Nat → Int) (d : Nat) : Nat → Nat := fun k => redD (x k) d
def lfN (x : Nat → Int) (d : Nat) : Nat → Int := fun k => redN ((lft (x k) d : Nat) : Int) d
def lfD (x : Nat → Int) (d : Nat) : Nat → Nat := fun k => redD ((lft (x k) d : Nat) : Int) d
def okX (m d : Nat) (x : Nat → Int) : Prop := m ≤ 12 ∧ 0 < d ∧ d ≤ 12 ∧ ∀ k, k < m → (x k).natAbs ≤ 999
/-- the list of what is left, as the closure has caught it -/
abbrev ccR (m : Nat) (x : Nat → Int) (d : Nat) : Nat → L := fun k => ([L.sl 4 m (cRt (lfN x d) (lfD x d))][0 + k]?).getD .un
theorem cRi_full {N : Nat → Int} {D : Nat → Nat} {m k : Nat} (h : k < m) (j : Nat) : cRi N D m k j = rtL (N k) (D k) j := if_pos h
theorem stCl0 (m d : Nat) (x : Nat → Int) (h : okX m d x) (i k : Nat) (hi : i < m) (hk : k < m) : Fn1 Tryd.prog 86 [.c (iL (i : Int)), .c (iL (k : Int)), .xp 1 (ccR m x d)] (intV (cmpI (lfN x d k * (lfD x d i : Int)) (lfN x d i * (lfD x d k : Int)))) := by
  refine fn_of_wpx (O := lex) tab_ok gamLg_ok mixed Tryd.func86 (by kernel_rfl) rfl rfl rfl (by simp [Tryd.ntmps86]) (by kernel_rfl) ?_
  obtain ⟨hm, hd0, hd, hx⟩ := h
  have hl : ∀ k, (lft (x k) d) < d := fun k => lft_lt hd0
  have hN : ∀ k, (lfN x d k).natAbs ≤ 12 := fun k => by
    have h1 := redN_le (n := ((lft (x k) d : Nat) : Int)) hd0
    have h2 := hl k
    rw [Int.natAbs_natCast] at h1
    unfold lfN
    omega
  have hD : ∀ k, lfD x d k ≤ 12 := fun k => Nat.le_trans (redD_le _ _) hd
  have hD0 : ∀ k, 0 < lfD x d k := fun k => redD_pos hd0
  have hb : ∀ a b, (lfN x d a * (lfD x d b : Int)).natAbs < 18446744073709551616 := fun a b => Nat.lt_of_le_of_lt (m := 12 * 12) (by
    rw [Int.natAbs_mul, Int.natAbs_natCast]
    exact Nat.mul_le_mul (hN a) (hD b)) (by decide)
  have hc := stCmp (lfN x d k) (lfN x d i) (lfD x d k) (lfD x d i) (hD0 k) (hD0 i) (hb k i) (hb i k) (Nat.lt_of_le_of_lt (hD k) (by decide)) (Nat.lt_of_le_of_lt (hD i) (by decide))
  clear hl hN hD hD0 hb hx
  unfold ccR
  unfold rtA igI igA at hc
  conv => whnf
  repeat' (first
    | (refine NilG.mk fun bn hbn hbx => ?_; conv => whnf)
    | (refine Both.mk ?_ ?_ <;> conv => whnf)
    | ((first | (refine MkG.box 1 rfl rfl rfl (by decide) ?_) | (refine MkG.box 2 rfl rfl rfl (by decide) ?_) | (refine MkG.box 3 rfl rfl rfl (by decide) ?_) | (refine MkG.row ?_)); conv => whnf)
    | (refine LitG.row ?_; conv => whnf)
    | exact trivial
    | (refine Br.mk (fun hb => ?_) (fun hb => ?_) <;> (first | (exfalso; revert hb; decide) | ((try simp only [BL] at hb) <;> (try simp only [DL] at hb) <;> (first | (exfalso; omega) | (conv => whnf)))))
    | (refine And.intro ?_ ?_; (focus (first | exact id | exact rfl | exact trivial | (intro hg; first | exact hg | exact rfl | (simp; done) | (simp at hg ⊢; assumption)) | omega | decide | exact is2_c _ _ _ | exact is1_c _ _ | exact isS_c _ _ | exact isB_c _ _ | exact Nat.le_refl _ | assumption | exact mulLe (by decide) (by omega) | exact mulLe2 (by decide) (by omega) (by omega) | (intros; simp only [BL] at *; omega) | (intros; (try simp only [BL] at *); (try simp only [DL] at *); omega) | (intros; simp only [BL] at *; rw [wr_id (by omega) (by omega)]; omega) | (intro h1 h2; exact Bool.and_eq_true_iff.2 ⟨h1, h2⟩) | (intros; simp_all; done))); conv => whnf)
    | (refine Or.inr (And.intro rfl ?_); first | (refine congrArg intV ?_) | (refine congrArg boolV ?_) | (refine tupII ?_ ?_) | (refine tupIII ?_ ?_ ?_) | (refine tupU ?_ ?_ ?_ ?_ ?_) | exact rfl))
  refine CallC.mk (Fn.mono hc ?_)
  rintro obs r ⟨rfl, rfl⟩
  conv => whnf
  repeat' (first
    | (refine NilG.mk fun bn hbn hbx => ?_; conv => whnf)
    | (refine Both.mk ?_ ?_ <;> conv => whnf)
    | ((first | (refine MkG.box 1 rfl rfl rfl (by decide) ?_) | (refine MkG.box 2 rfl rfl rfl (by decide) ?_) | (refine MkG.box 3 rfl rfl rfl (by decide) ?_) | (refine MkG.row ?_)); conv => whnf)
    | (refine LitG.row ?_; conv => whnf)
    | exact trivial
    | (refine Br.mk (fun hb => ?_) (fun hb => ?_) <;> (first | (exfalso; revert hb; decide) | ((try simp only [BL] at hb) <;> (try simp only [DL] at hb) <;> (first | (exfalso; omega) | (conv => whnf)))))
    | (refine And.intro ?_ ?_; (focus (first | exact id | exact rfl | exact trivial | (intro hg; first | exact hg | exact rfl | (simp; done) | (simp at hg ⊢; assumption)) | omega | decide | exact is2_c _ _ _ | exact is1_c _ _ | exact isS_c _ _ | exact isB_c _ _ | exact Nat.le_refl _ | assumption | exact mulLe (by decide) (by omega) | exact mulLe2 (by decide) (by omega) (by omega) | (intros; simp only [BL] at *; omega) | (intros; (try simp only [BL] at *); (try simp only [DL] at *); omega) | (intros; simp only [BL] at *; rw [wr_id (by omega) (by omega)]; omega) | (intro h1 h2; exact Bool.and_eq_true_iff.2 ⟨h1, h2⟩) | (intros; simp_all; done))); conv => whnf)
    | (refine Or.inr (And.intro rfl ?_); first | (refine congrArg intV ?_) | (refine congrArg boolV ?_) | (refine tupII ?_ ?_) | (refine tupIII ?_ ?_ ?_) | (refine tupU ?_ ?_ ?_ ?_ ?_) | exact rfl))
  rfl
theorem frac_lt {a b r s p q d : Int} (hd : 0 < d) (hp : 0 < p) (hq : 0 < q) (h1 : a * d = r * p) (h2 : b * d = s * q) : a * q < b * p ↔ r < s := by
  have e1 : a * q * d = r * (p * q) := by grind
  have e2 : b * p * d = s * (p * q) := by grind
  have hpq : 0 < p * q := Int.mul_pos hp hq
  constructor
  · intro h
    have h3 := Int.mul_lt_mul_of_pos_right h hd
    rw [e1, e2] at h3
    exact Int.lt_of_mul_lt_mul_right h3 (Int.le_of_lt hpq)
  · intro h
    have h3 := Int.mul_lt_mul_of_pos_right h hpq
    rw [← e1, ← e2] at h3
    exact Int.lt_of_mul_lt_mul_right h3 (Int.le_of_lt hd)
theorem cmpI_neg {a b : Int} : cmpI a b < 0 ↔ a < b := by
  unfold cmpI
  split
  · rename_i h
    exact ⟨fun _ => h, fun _ => by decide⟩
  · rename_i h
    split
    · exact ⟨fun h1 => absurd h1 (by decide), fun h1 => absurd h1 h⟩
    · exact ⟨fun h1 => absurd h1 (by decide), fun h1 => absurd h1 h⟩
/-- the places, as far as they are laid -/
def gI (k : Nat) (a : Nat) : Int := if a < k then (a : Int) else 0
theorem gI_at {k a : Nat} (h : a < k) : gI k a = (a : Int) := if_pos h
theorem stCmpS (m d : Nat) (x : Nat → Int) (h : okX m d x) : CmpStl 86 (ccR m x d) (colStl (gI m)) (kyS x d) m :=
  ⟨fun i j hi hj => by
    have hd0 := h.2.1
    refine ⟨cmpI (lfN x d j * (lfD x d i : Int)) (lfN x d i * (lfD x d j : Int)), ?_, ?_⟩
    · have hc := stCl0 m d x h i j hi hj
      show Fn1 Tryd.prog _ [.c (iL (gI m i)), .c (iL (gI m j)), .xp 1 (ccR m x d)] _
      rw [gI_at hi, gI_at hj]
      exact hc
    · rw [cmpI_neg]
      have e1 := red_cross ((lft (x j) d : Nat) : Int) hd0
      have e2 := red_cross ((lft (x i) d : Nat) : Int) hd0
      have p1 : (0 : Int) < (lfD x d j : Int) := Int.natCast_pos.2 (redD_pos hd0)
      have p2 : (0 : Int) < (lfD x d i : Int) := Int.natCast_pos.2 (redD_pos hd0)
      refine (frac_lt (Int.natCast_pos.2 hd0) p1 p2 e1 e2).trans ?_
      unfold kyS
      omega⟩
/-- the objects looked at otherwise -/
theorem LoopG.objs {P : Program} {N : Nat} {c : Code} {S : AS} {K : Ex → AS → Prop} (os : List OB) (ho : OLeL S.obs os) (h : LoopG P N c ⟨S.fr, os⟩ K) : LoopG P N c S K :=
  ⟨fun w0 I0 σ I a w hd hN hr => h.sem w0 I0 σ I a w hd hN (by
    obtain ⟨g1, g2, g3⟩ := ho.get
    have hs := hr.st
    refine ⟨hr.same0, ⟨hs.cnt.trans g1, hs.imm, fun i o e => ?_, fun i o b e hl hb => ?_, fun i j oi oj b ei ej li lj hb hb' => ?_⟩, hr.fr, hr.i1, hr.i2, hr.sz⟩
    · obtain ⟨o', e', hle⟩ := g2 i o e
      exact hle.2 _ _ _ _ (hs.obj i o' e')
    · obtain ⟨o', e', hle⟩ := g2 i o e
      exact hs.freshH i o' b e' (hle.1.trans hl) hb
    · obtain ⟨o1, e1, h1⟩ := g2 i oi ei
      obtain ⟨o2, e2, h2⟩ := g2 j oj ej
      exact hs.injH i j o1 o2 b e1 e2 (h1.1.trans li) (h2.1.trans lj) hb hb')⟩
/-- the floors, as far as they are laid -/
def cFl (x : Nat → Int) (d i : Nat) : Nat → Nat → L := fun a _ => .v (.int .i64 (if a < i then x a / (d : Int) else 0))
/-- what round hands back -/
def stK (m d : Nat) (x : Nat → Int) (obs : List OB) (r : AV) : Prop := obs = [] ∧ ((d ∣ rSum x d m ∧ ∃ f, r = .tup [.c (.sl 1 m f), intV 0] ∧ Sh m 1 f (c1 (otS x d m (rSum x d m / d)))) ∨ (¬ d ∣ rSum x d m ∧ r = .tup [nilW, intV 14]))
set_option maxRecDepth 100000 in
set_option maxHeartbeats 8000000 in
theorem stRound (m d : Nat) (x : Nat → Int) (h : okX m d x) : Fn Tryd.prog 63 [.c (.sl 4 m (cRt (amN x d) (amD x d)))] (stK m d x) := by
  refine fn_of_wpx (O := lex) tab_ok gamLg_ok mixed Tryd.func63 (by kernel_rfl) rfl rfl rfl (by simp [Tryd.ntmps63]) (by kernel_rfl) ?_
  have hcmp := stCmpS m d x h
  obtain ⟨hm, hd0, hd, hx⟩ := h
  have rW : Fn1 Tryd.prog 60 [intV 0] (.agg (rtA 0 ((1 : Nat) : Int))) := raWhole 0 (by decide) (by decide)
  obtain ⟨z1, z2⟩ := red_0 hd0
  have rW' : Fn1 Tryd.prog 60 [intV 0] (.agg (rtA (redN ((rSum x d 0 : Nat) : Int) d) ((redD ((rSum x d 0 : Nat) : Int) d : Nat) : Int))) := by
    show Fn1 Tryd.prog _ [intV 0] (.agg (rtA (redN 0 d) ((redD 0 d : Nat) : Int)))
    rw [z1, z2]
    exact rW
  clear rW z1 z2
  unfold rtA igI igA at rW'
  conv => whnf
  repeat' (first
    | (refine NilG.mk fun bn hbn hbx => ?_; conv => whnf)
    | (refine Both.mk ?_ ?_ <;> conv => whnf)
    | ((first | (refine MkG.box 1 rfl rfl rfl (by decide) ?_) | (refine MkG.box 2 rfl rfl rfl (by decide) ?_) | (refine MkG.box 3 rfl rfl rfl (by decide) ?_) | (refine MkG.row ?_)); conv => whnf)
    | (refine LitG.row ?_; conv => whnf)
    | exact trivial
    | (refine Br.mk (fun hb => ?_) (fun hb => ?_) <;> (first | (exfalso; revert hb; decide) | ((try simp only [BL] at hb) <;> (try simp only [DL] at hb) <;> (first | (exfalso; omega) | (conv => whnf)))))
    | (refine And.intro ?_ ?_; (focus (first | exact id | exact rfl | exact trivial | (intro hg; first | exact hg | exact rfl | (simp; done) | (simp at hg ⊢; assumption)) | omega | decide | exact is2_c _ _ _ | exact is1_c _ _ | exact isS_c _ _ | exact isB_c _ _ | exact Nat.le_refl _ | assumption | exact mulLe (by decide) (by omega) | exact mulLe2 (by decide) (by omega) (by omega) | (intros; simp only [BL] at *; omega) | (intros; (try simp only [BL] at *); (try simp only [DL] at *); omega) | (intros; simp only [BL] at *; rw [wr_id (by omega) (by omega)]; omega) | (intro h1 h2; exact Bool.and_eq_true_iff.2 ⟨h1, h2⟩) | (intros; simp_all; done))); conv => whnf)
    | (refine Or.inr (And.intro rfl ?_); first | (refine congrArg intV ?_) | (refine congrArg boolV ?_) | (refine tupII ?_ ?_) | (refine tupIII ?_ ?_ ?_) | (refine tupU ?_ ?_ ?_ ?_ ?_) | exact rfl))
  refine CallC.mk (Fn.mono rW' ?_)
  rintro obs r ⟨rfl, rfl⟩
  conv => whnf
  repeat' (first
    | (refine NilG.mk fun bn hbn hbx => ?_; conv => whnf)
    | (refine Both.mk ?_ ?_ <;> conv => whnf)
    | ((first | (refine MkG.box 1 rfl rfl rfl (by decide) ?_) | (refine MkG.box 2 rfl rfl rfl (by decide) ?_) | (refine MkG.box 3 rfl rfl rfl (by decide) ?_) | (refine MkG.row ?_)); conv => whnf)
    | (refine LitG.row ?_; conv => whnf)
    | exact trivial
    | (refine Br.mk (fun hb => ?_) (fun hb => ?_) <;> (first | (exfalso; revert hb; decide) | ((try simp only [BL] at hb) <;> (try simp only [DL] at hb) <;> (first | (exfalso; omega) | (conv => whnf)))))
    | (refine And.intro ?_ ?_; (focus (first | exact id | exact rfl | exact trivial | (intro hg; first | exact hg | exact rfl | (simp; done) | (simp at hg ⊢; assumption)) | omega | decide | exact is2_c _ _ _ | exact is1_c _ _ | exact isS_c _ _ | exact isB_c _ _ | exact Nat.le_refl _ | assumption | exact mulLe (by decide) (by omega) | exact mulLe2 (by decide) (by omega) (by omega) | (intros; simp only [BL] at *; omega) | (intros; (try simp only [BL] at *); (try simp only [DL] at *); omega) | (intros; simp only [BL] at *; rw [wr_id (by omega) (by omega)]; omega) | (intro h1 h2; exact Bool.and_eq_true_iff.2 ⟨h1, h2⟩) | (intros; simp_all; done))); conv => whnf)
    | (refine Or.inr (And.intro rfl ?_); first | (refine congrArg intV ?_) | (refine congrArg boolV ?_) | (refine tupII ?_ ?_) | (refine tupIII ?_ ?_ ?_) | (refine tupU ?_ ?_ ?_ ?_ ?_) | exact rfl))
  refine sem_loop tab_ok gamLg_ok mixed (by kernel_rfl) (O := lex) (fun k : Nat => ⟨[(0, .c (.sl 4 m (cRt (amN x d) (amD x d)))), (4, .own 0), (5, .lp 2 0), (6, .lp 3 0), (25, .c (.sl 4 m (cRt (amN x d) (amD x d)))), (26, intV (m : Int)), (27, intV (k : Int))], [.row 3 1 m false (cFl x d k), .row 90 4 m false (cRi (lfN x d) (lfD x d) k), .box [.own 1], .box (rtA (redN ((rSum x d k : Nat) : Int) d) ((redD ((rSum x d k : Nat) : Int) d : Nat) : Int))]⟩) (fun k => k ≤ m) (fun k => m - k) ⟨0, [?_, ?_, ?_, ?_], Nat.zero_le _, ?_⟩ fun k hk => ?_
  rotate_left 4
  · refine Sub.of ?_ ?_ ?_
    repeat' (first | (refine And.intro ?_ ?_) | exact trivial | exact fun _ _ _ => hsc _ _ | (exact congrArg intV (by first | with_reducible rfl | with_reducible assumption)) | exact (rfl : AV.idsLt _ _ = true) | exact (rfl : _ = AV.ren _ (.own _)) | exact (rfl : _ = AV.ren _ (.fn _ _)) | exact (rfl : _ = AV.ren _ (.gh _)) | (exact congrArg intV (by assumption)) | (refine congrArg intV ((wr_id (by omega) (by omega)).trans (by omega))) | exact rfl | (simp only [NLc]; first | exact rfl | done) | exact all0 | exact fun h => Bool.noConfusion h | exact fun _ _ _ _ => rfl | omega)
    · intro a ha b hb
      have hb : b < 1 := hb
      obtain rfl : b = 0 := by omega
      show L.v (Value.int .i64 0) = L.v (Value.int .i64 (if a < 0 then _ else 0))
      rw [if_neg (by omega)]
    · refine ⟨rfl, rfl, rfl, fun h => Bool.noConfusion h, fun a ha b hb => ?_⟩
      have hb : b < 4 := hb
      refine Eq.trans ?_ (cRi_0 (lfN x d) (lfD x d) a b)
      match b, hb with
      | 0, _ => rfl
      | 1, _ => rfl
      | 2, _ => rfl
      | 3, _ => rfl
  rcases Nat.lt_or_ge k m with hkm | hkm
  · have hxk := hx k hkm
    have q1 := quo_bnd hd0 hxk
    have hN1 : (redN (x k) d).natAbs ≤ 999 := Nat.le_trans (redN_le hd0) hxk
    have hD1 : redD (x k) d ≤ 12 := Nat.le_trans (redD_le _ _) hd
    have hD0 : 0 < redD (x k) d := redD_pos hd0
    have hl := lft_lt (x := x k) hd0
    have hlN : (redN ((lft (x k) d : Nat) : Int) d).natAbs ≤ 12 := by
      have h1 := redN_le (n := ((lft (x k) d : Nat) : Int)) hd0
      rw [Int.natAbs_natCast] at h1
      omega
    have hlD : redD ((lft (x k) d : Nat) : Int) d ≤ 12 := Nat.le_trans (redD_le _ _) hd
    have hlD0 : 0 < redD ((lft (x k) d : Nat) : Int) d := redD_pos hd0
    have hRk : rSum x d k ≤ 132 := by
      have h1 := rSum_le (x := x) hd0 k
      have h2 : k * (d - 1) ≤ 12 * 11 := Nat.mul_le_mul (by omega) (by omega)
      omega
    have hsN : (redN ((rSum x d k : Nat) : Int) d).natAbs ≤ 132 := by
      have h1 := redN_le (n := ((rSum x d k : Nat) : Int)) hd0
      rw [Int.natAbs_natCast] at h1
      omega
    have hsD : redD ((rSum x d k : Nat) : Int) d ≤ 12 := Nat.le_trans (redD_le _ _) hd
    have hsD0 : 0 < redD ((rSum x d k : Nat) : Int) d := redD_pos hd0
    have nb : ∀ {a : Int} {b A B : Nat}, a.natAbs ≤ A → b ≤ B → (a * (b : Int)).natAbs ≤ A * B := fun {a b A B} h1 h2 => by
      rw [Int.natAbs_mul, Int.natAbs_natCast]
      exact Nat.mul_le_mul h1 h2
    have rF : Fn1 Tryd.prog 82 [.agg (rtA (amN x d k) ((amD x d k : Nat) : Int))] (.agg (igI (x k / (d : Int)))) := by
      have h := stFloor (redN (x k) d) (redD (x k) d) (by omega) hD0 (by omega)
      rw [st_floor hd0] at h
      exact h
    have rM := stSmall (x k / (d : Int)) (by omega)
    have rO := lgOf 1 (by decide) (by decide)
    have rS : Fn1 Tryd.prog 80 [.agg (rtA (amN x d k) ((amD x d k : Nat) : Int)), .agg (rtA (x k / (d : Int)) ((1 : Nat) : Int))] (.agg (rtA (lfN x d k) ((lfD x d k : Nat) : Int))) := by
      have b1 := nb hN1 (show 1 ≤ 1 by decide)
      have b2 := nb q1 hD1
      have b2' : (-(x k / (d : Int)) * ((redD (x k) d : Nat) : Int)).natAbs ≤ 999 * 12 := nb (by rw [Int.natAbs_neg]; exact q1) hD1
      have h := raSub (redN (x k) d) (x k / (d : Int)) (redD (x k) d) 1 hD0 (by decide) (by omega) (by omega) (Nat.lt_of_le_of_lt (Int.natAbs_add_le _ _) (by omega)) (by omega)
      obtain ⟨e1, e2⟩ := st_rest (x := x k) hd0
      rw [e1, e2] at h
      exact h
    have rA : Fn1 Tryd.prog 57 [.agg (rtA (redN ((rSum x d k : Nat) : Int) d) ((redD ((rSum x d k : Nat) : Int) d : Nat) : Int)), .agg (rtA (lfN x d k) ((lfD x d k : Nat) : Int))] (.agg (rtA (redN ((rSum x d (k + 1) : Nat) : Int) d) ((redD ((rSum x d (k + 1) : Nat) : Int) d : Nat) : Int))) := by
      have b1 := nb hsN hlD
      have b2 := nb hlN hsD
      have b3 : redD ((rSum x d k : Nat) : Int) d * redD ((lft (x k) d : Nat) : Int) d ≤ 12 * 12 := Nat.mul_le_mul hsD hlD
      have h := raAdd (redN ((rSum x d k : Nat) : Int) d) (redN ((lft (x k) d : Nat) : Int) d) (redD ((rSum x d k : Nat) : Int) d) (redD ((lft (x k) d : Nat) : Int) d) hsD0 hlD0 (by omega) (by omega) (Nat.lt_of_le_of_lt (Int.natAbs_add_le _ _) (by omega)) (by omega)
      obtain ⟨e1, e2⟩ := st_sum (S := rSum x d k) (r := lft (x k) d) hd0
      rw [e1, e2] at h
      exact h
    clear hN1 hD1 hD0 hl hlN hlD hlD0 hRk hsN hsD hsD0 nb
    unfold rtA igI igA at *
    generalize hF : x k / (d : Int) = F at *
    conv => whnf
    repeat' (first
      | (refine NilG.mk fun bn hbn hbx => ?_; conv => whnf)
      | (refine Both.mk ?_ ?_ <;> conv => whnf)
      | ((first | (refine MkG.box 1 rfl rfl rfl (by decide) ?_) | (refine MkG.box 2 rfl rfl rfl (by decide) ?_) | (refine MkG.box 3 rfl rfl rfl (by decide) ?_) | (refine MkG.row ?_)); conv => whnf)
      | (refine LitG.row ?_; conv => whnf)
      | exact trivial
      | (refine Br.mk (fun hb => ?_) (fun hb => ?_) <;> (first | (exfalso; revert hb; decide) | ((try simp only [BL] at hb) <;> (try simp only [DL] at hb) <;> (first | (exfalso; omega) | (conv => whnf)))))
      | (refine And.intro ?_ ?_; (focus (first | exact id | exact rfl | exact trivial | (intro hg; first | exact hg | exact rfl | (simp; done) | (simp at hg ⊢; assumption)) | omega | decide | exact is2_c _ _ _ | exact is1_c _ _ | exact isS_c _ _ | exact isB_c _ _ | exact Nat.le_refl _ | assumption | exact mulLe (by decide) (by omega) | exact mulLe2 (by decide) (by omega) (by omega) | (intros; simp only [BL] at *; omega) | (intros; (try simp only [BL] at *); (try simp only [DL] at *); omega) | (intros; simp only [BL] at *; rw [wr_id (by omega) (by omega)]; omega) | (intro h1 h2; exact Bool.and_eq_true_iff.2 ⟨h1, h2⟩) | (intros; simp_all; done))); conv => whnf)
      | (refine Or.inr (And.intro rfl ?_); first | (refine congrArg intV ?_) | (refine congrArg boolV ?_) | (refine tupII ?_ ?_) | (refine tupIII ?_ ?_ ?_) | (refine tupU ?_ ?_ ?_ ?_ ?_) | exact rfl))
    all_goals repeat' (first
      | (refine CallC.mk (Fn.mono rF ?_); rintro obs r ⟨rfl, rfl⟩; ((conv => whnf); repeat' (first | (refine NilG.mk fun bn hbn hbx => ?_; conv => whnf) | (refine Both.mk ?_ ?_ <;> conv => whnf) | ((first | (refine MkG.box 1 rfl rfl rfl (by decide) ?_) | (refine MkG.box 2 rfl rfl rfl (by decide) ?_) | (refine MkG.box 3 rfl rfl rfl (by decide) ?_) | (refine MkG.row ?_)); conv => whnf) | (refine LitG.row ?_; conv => whnf) | exact trivial | (refine Br.mk (fun hb => ?_) (fun hb => ?_) <;> (first | (exfalso; revert hb; decide) | ((try simp only [BL] at hb) <;> (try simp only [DL] at hb) <;> conv => whnf))) | (refine And.intro ?_ ?_; (focus (first | exact id | exact rfl | exact trivial | (intro hg; first | exact hg | exact rfl | (simp; done) | (simp at hg ⊢; assumption)) | omega | decide | exact is2_c _ _ _ | exact is1_c _ _ | exact isS_c _ _ | exact isB_c _ _ | exact Nat.le_refl _ | assumption | exact mulLe (by decide) (by omega) | exact mulLe2 (by decide) (by omega) (by omega) | (intros; simp only [BL] at *; omega) | (intros; (try simp only [BL] at *); (try simp only [DL] at *); omega) | (intros; simp only [BL] at *; rw [wr_id (by omega) (by omega)]; omega) | (intro h1 h2; exact Bool.and_eq_true_iff.2 ⟨h1, h2⟩) | (intros; simp_all; done))); conv => whnf) | (refine Or.inr (And.intro rfl ?_); first | (refine congrArg intV ?_) | (refine congrArg boolV ?_) | (refine tupII ?_ ?_) | (refine tupIII ?_ ?_ ?_) | (refine tupU ?_ ?_ ?_ ?_ ?_) | exact rfl))))
      | (refine CallC.mk (Fn.mono rM ?_); rintro obs r ⟨rfl, rfl⟩; ((conv => whnf); repeat' (first | (refine NilG.mk fun bn hbn hbx => ?_; conv => whnf) | (refine Both.mk ?_ ?_ <;> conv => whnf) | ((first | (refine MkG.box 1 rfl rfl rfl (by decide) ?_) | (refine MkG.box 2 rfl rfl rfl (by decide) ?_) | (refine MkG.box 3 rfl rfl rfl (by decide) ?_) | (refine MkG.row ?_)); conv => whnf) | (refine LitG.row ?_; conv => whnf) | exact trivial | (refine Br.mk (fun hb => ?_) (fun hb => ?_) <;> (first | (exfalso; revert hb; decide) | ((try simp only [BL] at hb) <;> (try simp only [DL] at hb) <;> conv => whnf))) | (refine And.intro ?_ ?_; (focus (first | exact id | exact rfl | exact trivial | (intro hg; first | exact hg | exact rfl | (simp; done) | (simp at hg ⊢; assumption)) | omega | decide | exact is2_c _ _ _ | exact is1_c _ _ | exact isS_c _ _ | exact isB_c _ _ | exact Nat.le_refl _ | assumption | exact mulLe (by decide) (by omega) | exact mulLe2 (by decide) (by omega) (by omega) | (intros; simp only [BL] at *; omega) | (intros; (try simp only [BL] at *); (try simp only [DL] at *); omega) | (intros; simp only [BL] at *; rw [wr_id (by omega) (by omega)]; omega) | (intro h1 h2; exact Bool.and_eq_true_iff.2 ⟨h1, h2⟩) | (intros; simp_all; done))); conv => whnf) | (refine Or.inr (And.intro rfl ?_); first | (refine congrArg intV ?_) | (refine congrArg boolV ?_) | (refine tupII ?_ ?_) | (refine tupIII ?_ ?_ ?_) | (refine tupU ?_ ?_ ?_ ?_ ?_) | exact rfl))))
      | (refine CallC.mk (Fn.mono rO ?_); rintro obs r ⟨rfl, rfl⟩; ((conv => whnf); repeat' (first | (refine NilG.mk fun bn hbn hbx => ?_; conv => whnf) | (refine Both.mk ?_ ?_ <;> conv => whnf) | ((first | (refine MkG.box 1 rfl rfl rfl (by decide) ?_) | (refine MkG.box 2 rfl rfl rfl (by decide) ?_) | (refine MkG.box 3 rfl rfl rfl (by decide) ?_) | (refine MkG.row ?_)); conv => whnf) | (refine LitG.row ?_; conv => whnf) | exact trivial | (refine Br.mk (fun hb => ?_) (fun hb => ?_) <;> (first | (exfalso; revert hb; decide) | ((try simp only [BL] at hb) <;> (try simp only [DL] at hb) <;> conv => whnf))) | (refine And.intro ?_ ?_; (focus (first | exact id | exact rfl | exact trivial | (intro hg; first | exact hg | exact rfl | (simp; done) | (simp at hg ⊢; assumption)) | omega | decide | exact is2_c _ _ _ | exact is1_c _ _ | exact isS_c _ _ | exact isB_c _ _ | exact Nat.le_refl _ | assumption | exact mulLe (by decide) (by omega) | exact mulLe2 (by decide) (by omega) (by omega) | (intros; simp only [BL] at *; omega) | (intros; (try simp only [BL] at *); (try simp only [DL] at *); omega) | (intros; simp only [BL] at *; rw [wr_id (by omega) (by omega)]; omega) | (intro h1 h2; exact Bool.and_eq_true_iff.2 ⟨h1, h2⟩) | (intros; simp_all; done))); conv => whnf) | (refine Or.inr (And.intro rfl ?_); first | (refine congrArg intV ?_) | (refine congrArg boolV ?_) | (refine tupII ?_ ?_) | (refine tupIII ?_ ?_ ?_) | (refine tupU ?_ ?_ ?_ ?_ ?_) | exact rfl))))
      | (refine CallC.mk (Fn.mono rS ?_); rintro obs r ⟨rfl, rfl⟩; ((conv => whnf); repeat' (first | (refine NilG.mk fun bn hbn hbx => ?_; conv => whnf) | (refine Both.mk ?_ ?_ <;> conv => whnf) | ((first | (refine MkG.box 1 rfl rfl rfl (by decide) ?_) | (refine MkG.box 2 rfl rfl rfl (by decide) ?_) | (refine MkG.box 3 rfl rfl rfl (by decide) ?_) | (refine MkG.row ?_)); conv => whnf) | (refine LitG.row ?_; conv => whnf) | exact trivial | (refine Br.mk (fun hb => ?_) (fun hb => ?_) <;> (first | (exfalso; revert hb; decide) | ((try simp only [BL] at hb) <;> (try simp only [DL] at hb) <;> conv => whnf))) | (refine And.intro ?_ ?_; (focus (first | exact id | exact rfl | exact trivial | (intro hg; first | exact hg | exact rfl | (simp; done) | (simp at hg ⊢; assumption)) | omega | decide | exact is2_c _ _ _ | exact is1_c _ _ | exact isS_c _ _ | exact isB_c _ _ | exact Nat.le_refl _ | assumption | exact mulLe (by decide) (by omega) | exact mulLe2 (by decide) (by omega) (by omega) | (intros; simp only [BL] at *; omega) | (intros; (try simp only [BL] at *); (try simp only [DL] at *); omega) | (intros; simp only [BL] at *; rw [wr_id (by omega) (by omega)]; omega) | (intro h1 h2; exact Bool.and_eq_true_iff.2 ⟨h1, h2⟩) | (intros; simp_all; done))); conv => whnf) | (refine Or.inr (And.intro rfl ?_); first | (refine congrArg intV ?_) | (refine congrArg boolV ?_) | (refine tupII ?_ ?_) | (refine tupIII ?_ ?_ ?_) | (refine tupU ?_ ?_ ?_ ?_ ?_) | exact rfl)))))
    · exfalso
      rcases hb with (hb | hb) | hb
      · cases hb
      · omega
      · omega
    refine And.intro ⟨rfl, by omega, by decide⟩ ?_
    simp only [Int.toNat_natCast, if_true]
    conv => whnf
    repeat' (first
      | (refine NilG.mk fun bn hbn hbx => ?_; conv => whnf)
      | (refine Both.mk ?_ ?_ <;> conv => whnf)
      | ((first | (refine MkG.box 1 rfl rfl rfl (by decide) ?_) | (refine MkG.box 2 rfl rfl rfl (by decide) ?_) | (refine MkG.box 3 rfl rfl rfl (by decide) ?_) | (refine MkG.row ?_)); conv => whnf)
      | (refine LitG.row ?_; conv => whnf)
      | exact trivial
      | (refine Br.mk (fun hb => ?_) (fun hb => ?_) <;> (first | (exfalso; revert hb; decide) | ((try simp only [BL] at hb) <;> (try simp only [DL] at hb) <;> (first | (exfalso; omega) | (conv => whnf)))))
      | (refine And.intro ?_ ?_; (focus (first | exact id | exact rfl | exact trivial | (intro hg; first | exact hg | exact rfl | (simp; done) | (simp at hg ⊢; assumption)) | omega | decide | exact is2_c _ _ _ | exact is1_c _ _ | exact isS_c _ _ | exact isB_c _ _ | exact Nat.le_refl _ | assumption | exact mulLe (by decide) (by omega) | exact mulLe2 (by decide) (by omega) (by omega) | (intros; simp only [BL] at *; omega) | (intros; (try simp only [BL] at *); (try simp only [DL] at *); omega) | (intros; simp only [BL] at *; rw [wr_id (by omega) (by omega)]; omega) | (intro h1 h2; exact Bool.and_eq_true_iff.2 ⟨h1, h2⟩) | (intros; simp_all; done))); conv => whnf)
      | (refine Or.inr (And.intro rfl ?_); first | (refine congrArg intV ?_) | (refine congrArg boolV ?_) | (refine tupII ?_ ?_) | (refine tupIII ?_ ?_ ?_) | (refine tupU ?_ ?_ ?_ ?_ ?_) | exact rfl))
    refine CallC.mk (Fn.mono rA ?_)
    rintro obs r ⟨rfl, rfl⟩
    conv => whnf
    repeat' (first
      | (refine NilG.mk fun bn hbn hbx => ?_; conv => whnf)
      | (refine Both.mk ?_ ?_ <;> conv => whnf)
      | ((first | (refine MkG.box 1 rfl rfl rfl (by decide) ?_) | (refine MkG.box 2 rfl rfl rfl (by decide) ?_) | (refine MkG.box 3 rfl rfl rfl (by decide) ?_) | (refine MkG.row ?_)); conv => whnf)
      | (refine LitG.row ?_; conv => whnf)
      | exact trivial
      | (refine Br.mk (fun hb => ?_) (fun hb => ?_) <;> (first | (exfalso; revert hb; decide) | ((try simp only [BL] at hb) <;> (try simp only [DL] at hb) <;> (first | (exfalso; omega) | (conv => whnf)))))
      | (refine And.intro ?_ ?_; (focus (first | exact id | exact rfl | exact trivial | (intro hg; first | exact hg | exact rfl | (simp; done) | (simp at hg ⊢; assumption)) | omega | decide | exact is2_c _ _ _ | exact is1_c _ _ | exact isS_c _ _ | exact isB_c _ _ | exact Nat.le_refl _ | assumption | exact mulLe (by decide) (by omega) | exact mulLe2 (by decide) (by omega) (by omega) | (intros; simp only [BL] at *; omega) | (intros; (try simp only [BL] at *); (try simp only [DL] at *); omega) | (intros; simp only [BL] at *; rw [wr_id (by omega) (by omega)]; omega) | (intro h1 h2; exact Bool.and_eq_true_iff.2 ⟨h1, h2⟩) | (intros; simp_all; done))); conv => whnf)
      | (refine Or.inr (And.intro rfl ?_); first | (refine congrArg intV ?_) | (refine congrArg boolV ?_) | (refine tupII ?_ ?_) | (refine tupIII ?_ ?_ ?_) | (refine tupU ?_ ?_ ?_ ?_ ?_) | exact rfl))
    refine ⟨k + 1, [?_, ?_, ?_, ?_], by omega, by omega, ?_⟩
    rotate_left 4
    refine Sub.of ?_ ?_ ?_
    repeat' (first | (refine And.intro ?_ ?_) | exact trivial | exact fun _ _ _ => hsc _ _ | (exact congrArg intV (by first | with_reducible rfl | with_reducible assumption)) | exact (rfl : AV.idsLt _ _ = true) | exact (rfl : _ = AV.ren _ (.own _)) | exact (rfl : _ = AV.ren _ (.fn _ _)) | exact (rfl : _ = AV.ren _ (.gh _)) | (exact congrArg intV (by assumption)) | (refine congrArg intV ((wr_id (by omega) (by omega)).trans (by omega))) | exact rfl | (simp only [NLc]; first | exact rfl | done) | exact all0 | exact fun h => Bool.noConfusion h | exact fun _ _ _ _ => rfl | omega)
    · refine row_set1 ?_ fun a ha hne => ?_
      · show L.v (Value.int .i64 F) = L.v (Value.int .i64 (if k < k + 1 then x k / (d : Int) else 0))
        rw [if_pos (by omega), hF]
      · show L.v (Value.int .i64 (if a < k then _ else 0)) = L.v (Value.int .i64 (if a < k + 1 then _ else 0))
        by_cases h : a < k
        · rw [if_pos h, if_pos (by omega)]
        · rw [if_neg h, if_neg (by omega)]
    · refine ⟨rfl, rfl, rfl, fun h => Bool.noConfusion h, ?_⟩
      exact row_set4 (cRi_at (lfN x d) (lfD x d) k 0) (cRi_at (lfN x d) (lfD x d) k 1) (cRi_at (lfN x d) (lfD x d) k 2) (cRi_at (lfN x d) (lfD x d) k 3) fun a _ hne j _ => cRi_ne hne j
  · obtain rfl : k = m := by omega
    have r1 := lgICmp ((redD ((rSum x d k : Nat) : Int) d : Nat) : Int) 1 (Nat.le_trans (wl4n (Nat.lt_of_le_of_lt (Nat.le_trans (redD_le _ _) hd) (by decide))) (by decide)) (Nat.le_trans (wl4 (by decide)) (by decide))
    have rO := lgOf 1 (by decide) (by decide)
    by_cases hdv : d ∣ rSum x d k
    · have e1 := (red_one hd0).2 hdv
      have e2 := red_quo hd0 hdv
      rw [e1] at r1
      rw [e1, e2]
      have e3 : cmpI ((1 : Nat) : Int) 1 = 0 := by decide
      rw [e3] at r1
      have htk : rSum x d k / d ≤ k := rSum_quo hd0
      have rM := stSmall ((rSum x d k / d : Nat) : Int) (by rw [Int.natAbs_natCast]; omega)
      generalize ht : rSum x d k / d = t at *
      unfold rtA igI igA at *
      conv => whnf
      repeat' (first
        | (refine NilG.mk fun bn hbn hbx => ?_; conv => whnf)
        | (refine Both.mk ?_ ?_ <;> conv => whnf)
        | ((first | (refine MkG.box 1 rfl rfl rfl (by decide) ?_) | (refine MkG.box 2 rfl rfl rfl (by decide) ?_) | (refine MkG.box 3 rfl rfl rfl (by decide) ?_) | (refine MkG.row ?_)); conv => whnf)
        | (refine LitG.row ?_; conv => whnf)
        | exact trivial
        | (refine Br.mk (fun hb => ?_) (fun hb => ?_) <;> (first | (exfalso; revert hb; decide) | ((try simp only [BL] at hb) <;> (try simp only [DL] at hb) <;> (first | (exfalso; omega) | (conv => whnf)))))
        | (refine And.intro ?_ ?_; (focus (first | exact id | exact rfl | exact trivial | (intro hg; first | exact hg | exact rfl | (simp; done) | (simp at hg ⊢; assumption)) | omega | decide | exact is2_c _ _ _ | exact is1_c _ _ | exact isS_c _ _ | exact isB_c _ _ | exact Nat.le_refl _ | assumption | exact mulLe (by decide) (by omega) | exact mulLe2 (by decide) (by omega) (by omega) | (intros; simp only [BL] at *; omega) | (intros; (try simp only [BL] at *); (try simp only [DL] at *); omega) | (intros; simp only [BL] at *; rw [wr_id (by omega) (by omega)]; omega) | (intro h1 h2; exact Bool.and_eq_true_iff.2 ⟨h1, h2⟩) | (intros; simp_all; done))); conv => whnf)
        | (refine Or.inr (And.intro rfl ?_); first | (refine congrArg intV ?_) | (refine congrArg boolV ?_) | (refine tupII ?_ ?_) | (refine tupIII ?_ ?_ ?_) | (refine tupU ?_ ?_ ?_ ?_ ?_) | exact rfl))
      all_goals repeat' (first
        | (refine CallC.mk (Fn.mono rO ?_); rintro obs r ⟨rfl, rfl⟩; ((conv => whnf); repeat' (first | (refine NilG.mk fun bn hbn hbx => ?_; conv => whnf) | (refine Both.mk ?_ ?_ <;> conv => whnf) | ((first | (refine MkG.box 1 rfl rfl rfl (by decide) ?_) | (refine MkG.box 2 rfl rfl rfl (by decide) ?_) | (refine MkG.box 3 rfl rfl rfl (by decide) ?_) | (refine MkG.row ?_)); conv => whnf) | (refine LitG.row ?_; conv => whnf) | exact trivial | (refine Br.mk (fun hb => ?_) (fun hb => ?_) <;> (first | (exfalso; revert hb; decide) | ((try simp only [BL] at hb) <;> (try simp only [DL] at hb) <;> conv => whnf))) | (refine And.intro ?_ ?_; (focus (first | exact id | exact rfl | exact trivial | (intro hg; first | exact hg | exact rfl | (simp; done) | (simp at hg ⊢; assumption)) | omega | decide | exact is2_c _ _ _ | exact is1_c _ _ | exact isS_c _ _ | exact isB_c _ _ | exact Nat.le_refl _ | assumption | exact mulLe (by decide) (by omega) | exact mulLe2 (by decide) (by omega) (by omega) | (intros; simp only [BL] at *; omega) | (intros; (try simp only [BL] at *); (try simp only [DL] at *); omega) | (intros; simp only [BL] at *; rw [wr_id (by omega) (by omega)]; omega) | (intro h1 h2; exact Bool.and_eq_true_iff.2 ⟨h1, h2⟩) | (intros; simp_all; done))); conv => whnf) | (refine Or.inr (And.intro rfl ?_); first | (refine congrArg intV ?_) | (refine congrArg boolV ?_) | (refine tupII ?_ ?_) | (refine tupIII ?_ ?_ ?_) | (refine tupU ?_ ?_ ?_ ?_ ?_) | exact rfl))))
        | (refine CallC.mk (Fn.mono r1 ?_); rintro obs r ⟨rfl, rfl⟩; ((conv => whnf); repeat' (first | (refine NilG.mk fun bn hbn hbx => ?_; conv => whnf) | (refine Both.mk ?_ ?_ <;> conv => whnf) | ((first | (refine MkG.box 1 rfl rfl rfl (by decide) ?_) | (refine MkG.box 2 rfl rfl rfl (by decide) ?_) | (refine MkG.box 3 rfl rfl rfl (by decide) ?_) | (refine MkG.row ?_)); conv => whnf) | (refine LitG.row ?_; conv => whnf) | exact trivial | (refine Br.mk (fun hb => ?_) (fun hb => ?_) <;> (first | (exfalso; revert hb; decide) | ((try simp only [BL] at hb) <;> (try simp only [DL] at hb) <;> conv => whnf))) | (refine And.intro ?_ ?_; (focus (first | exact id | exact rfl | exact trivial | (intro hg; first | exact hg | exact rfl | (simp; done) | (simp at hg ⊢; assumption)) | omega | decide | exact is2_c _ _ _ | exact is1_c _ _ | exact isS_c _ _ | exact isB_c _ _ | exact Nat.le_refl _ | assumption | exact mulLe (by decide) (by omega) | exact mulLe2 (by decide) (by omega) (by omega) | (intros; simp only [BL] at *; omega) | (intros; (try simp only [BL] at *); (try simp only [DL] at *); omega) | (intros; simp only [BL] at *; rw [wr_id (by omega) (by omega)]; omega) | (intro h1 h2; exact Bool.and_eq_true_iff.2 ⟨h1, h2⟩) | (intros; simp_all; done))); conv => whnf) | (refine Or.inr (And.intro rfl ?_); first | (refine congrArg intV ?_) | (refine congrArg boolV ?_) | (refine tupII ?_ ?_) | (refine tupIII ?_ ?_ ?_) | (refine tupU ?_ ?_ ?_ ?_ ?_) | exact rfl)))))
      refine LoopG.objs [_, .row 90 4 k false (cRt (lfN x d) (lfD x d)), _, _, _] ⟨OLe.refl _, OLe.row (fun a ha j _ => cRi_full ha j) (fun h => Bool.noConfusion h), OLe.refl _, OLe.refl _, OLe.refl _, trivial⟩ ?_
      refine LoopG.frz [2, 1] ?_
      have hsc := scStl (gI k)
      refine sem_loop tab_ok gamLg_ok mixed (by kernel_rfl) (O := lex) (fun i : Nat => ⟨[(4, .own 0), (5, .xp 1 (ccR k x d)), (6, .lp 1 0), (12, .own 2), (77, intV (k : Int)), (78, intV (i : Int))], [.row 3 1 k false (cFl x d k), .box (rtA ((t : Nat) : Int) ((1 : Nat) : Int)), .row 3 1 k true (colStl (gI i))]⟩) (fun i => i ≤ k) (fun i => k - i) ⟨0, [0, 3, 4], Nat.zero_le _, ?_⟩ fun i hi => ?_
      · refine Sub.of ?_ ?_ ?_
        repeat' (first | (refine And.intro ?_ ?_) | exact trivial | exact fun _ _ _ => hsc _ _ | (exact congrArg intV (by first | with_reducible rfl | with_reducible assumption)) | exact (rfl : AV.idsLt _ _ = true) | exact (rfl : _ = AV.ren _ (.own _)) | exact (rfl : _ = AV.ren _ (.fn _ _)) | exact (rfl : _ = AV.ren _ (.gh _)) | (exact congrArg intV (by assumption)) | (refine congrArg intV ((wr_id (by omega) (by omega)).trans (by omega))) | exact rfl | (simp only [NLc]; first | exact rfl | done) | exact all0 | exact fun h => Bool.noConfusion h | exact fun _ _ _ _ => rfl | omega)
        · exact fun _ => scStl _
        · intro a ha b hb
          have hb : b < 1 := hb
          obtain rfl : b = 0 := by omega
          show L.v (Value.int .i64 0) = L.v (Value.int .i64 (if a < 0 then _ else 0))
          rw [if_neg (by omega)]
      have hsc := scStl (gI (i + 1))
      rcases Nat.lt_or_ge i k with hik | hik
      · conv => whnf
        repeat' (first
          | (refine NilG.mk fun bn hbn hbx => ?_; conv => whnf)
          | (refine Both.mk ?_ ?_ <;> conv => whnf)
          | ((first | (refine MkG.box 1 rfl rfl rfl (by decide) ?_) | (refine MkG.box 2 rfl rfl rfl (by decide) ?_) | (refine MkG.box 3 rfl rfl rfl (by decide) ?_) | (refine MkG.row ?_)); conv => whnf)
          | (refine LitG.row ?_; conv => whnf)
          | exact trivial
          | (refine Br.mk (fun hb => ?_) (fun hb => ?_) <;> (first | (exfalso; revert hb; decide) | ((try simp only [BL] at hb) <;> (try simp only [DL] at hb) <;> (first | (exfalso; omega) | (conv => whnf)))))
          | (refine And.intro ?_ ?_; (focus (first | exact id | exact rfl | exact trivial | (intro hg; first | exact hg | exact rfl | (simp; done) | (simp at hg ⊢; assumption)) | omega | decide | exact is2_c _ _ _ | exact is1_c _ _ | exact isS_c _ _ | exact isB_c _ _ | exact Nat.le_refl _ | assumption | exact mulLe (by decide) (by omega) | exact mulLe2 (by decide) (by omega) (by omega) | (intros; simp only [BL] at *; omega) | (intros; (try simp only [BL] at *); (try simp only [DL] at *); omega) | (intros; simp only [BL] at *; rw [wr_id (by omega) (by omega)]; omega) | (intro h1 h2; exact Bool.and_eq_true_iff.2 ⟨h1, h2⟩) | (intros; simp_all; done))); conv => whnf)
          | (refine Or.inr (And.intro rfl ?_); first | (refine congrArg intV ?_) | (refine congrArg boolV ?_) | (refine tupII ?_ ?_) | (refine tupIII ?_ ?_ ?_) | (refine tupU ?_ ?_ ?_ ?_ ?_) | exact rfl))
        refine ⟨i + 1, [?_, ?_, ?_], by omega, by omega, ?_⟩
        rotate_left 3
        refine Sub.of ?_ ?_ ?_
        repeat' (first | (refine And.intro ?_ ?_) | exact trivial | exact fun _ _ _ => hsc _ _ | (exact congrArg intV (by first | with_reducible rfl | with_reducible assumption)) | exact (rfl : AV.idsLt _ _ = true) | exact (rfl : _ = AV.ren _ (.own _)) | exact (rfl : _ = AV.ren _ (.fn _ _)) | exact (rfl : _ = AV.ren _ (.gh _)) | (exact congrArg intV (by assumption)) | (refine congrArg intV ((wr_id (by omega) (by omega)).trans (by omega))) | exact rfl | (simp only [NLc]; first | exact rfl | done) | exact all0 | exact fun h => Bool.noConfusion h | exact fun _ _ _ _ => rfl | omega)
        refine row_set1 (f := colStl (gI i)) (g := colStl (gI (i + 1))) ?_ fun a ha hne => ?_
        · show iL (i : Int) = iL (gI (i + 1) i)
          rw [gI_at (Nat.lt_succ_self i)]
        · show iL (if a < i then _ else 0) = iL (if a < i + 1 then _ else 0)
          by_cases h : a < i
          · rw [if_pos h, if_pos (by omega)]
          · rw [if_neg h, if_neg (by omega)]
      · obtain rfl : i = k := by omega
        conv => whnf
        repeat' (first
          | (refine NilG.mk fun bn hbn hbx => ?_; conv => whnf)
          | (refine Both.mk ?_ ?_ <;> conv => whnf)
          | ((first | (refine MkG.box 1 rfl rfl rfl (by decide) ?_) | (refine MkG.box 2 rfl rfl rfl (by decide) ?_) | (refine MkG.box 3 rfl rfl rfl (by decide) ?_) | (refine MkG.row ?_)); conv => whnf)
          | (refine LitG.row ?_; conv => whnf)
          | exact trivial
          | (refine Br.mk (fun hb => ?_) (fun hb => ?_) <;> (first | (exfalso; revert hb; decide) | ((try simp only [BL] at hb) <;> (try simp only [DL] at hb) <;> (first | (exfalso; omega) | (conv => whnf)))))
          | (refine And.intro ?_ ?_; (focus (first | exact id | exact rfl | exact trivial | (intro hg; first | exact hg | exact rfl | (simp; done) | (simp at hg ⊢; assumption)) | omega | decide | exact is2_c _ _ _ | exact is1_c _ _ | exact isS_c _ _ | exact isB_c _ _ | exact Nat.le_refl _ | assumption | exact mulLe (by decide) (by omega) | exact mulLe2 (by decide) (by omega) (by omega) | (intros; simp only [BL] at *; omega) | (intros; (try simp only [BL] at *); (try simp only [DL] at *); omega) | (intros; simp only [BL] at *; rw [wr_id (by omega) (by omega)]; omega) | (intro h1 h2; exact Bool.and_eq_true_iff.2 ⟨h1, h2⟩) | (intros; simp_all; done))); conv => whnf)
          | (refine Or.inr (And.intro rfl ?_); first | (refine congrArg intV ?_) | (refine congrArg boolV ?_) | (refine tupII ?_ ?_) | (refine tupIII ?_ ?_ ?_) | (refine tupU ?_ ?_ ?_ ?_ ?_) | exact rfl))
        refine CallG.wr [2] rfl (FnM.mono (sortStl hcmp (by omega)) ?_)
        rintro obs r ⟨q, hq, rfl, rfl⟩
        conv => whnf
        repeat' (first
          | (refine NilG.mk fun bn hbn hbx => ?_; conv => whnf)
          | (refine Both.mk ?_ ?_ <;> conv => whnf)
          | ((first | (refine MkG.box 1 rfl rfl rfl (by decide) ?_) | (refine MkG.box 2 rfl rfl rfl (by decide) ?_) | (refine MkG.box 3 rfl rfl rfl (by decide) ?_) | (refine MkG.row ?_)); conv => whnf)
          | (refine LitG.row ?_; conv => whnf)
          | exact trivial
          | (refine Br.mk (fun hb => ?_) (fun hb => ?_) <;> (first | (exfalso; revert hb; decide) | ((try simp only [BL] at hb) <;> (try simp only [DL] at hb) <;> (first | (exfalso; omega) | (conv => whnf)))))
          | (refine And.intro ?_ ?_; (focus (first | exact id | exact rfl | exact trivial | (intro hg; first | exact hg | exact rfl | (simp; done) | (simp at hg ⊢; assumption)) | omega | decide | exact is2_c _ _ _ | exact is1_c _ _ | exact isS_c _ _ | exact isB_c _ _ | exact Nat.le_refl _ | assumption | exact mulLe (by decide) (by omega) | exact mulLe2 (by decide) (by omega) (by omega) | (intros; simp only [BL] at *; omega) | (intros; (try simp only [BL] at *); (try simp only [DL] at *); omega) | (intros; simp only [BL] at *; rw [wr_id (by omega) (by omega)]; omega) | (intro h1 h2; exact Bool.and_eq_true_iff.2 ⟨h1, h2⟩) | (intros; simp_all; done))); conv => whnf)
          | (refine Or.inr (And.intro rfl ?_); first | (refine congrArg intV ?_) | (refine congrArg boolV ?_) | (refine tupII ?_ ?_) | (refine tupIII ?_ ?_ ?_) | (refine tupU ?_ ?_ ?_ ?_ ?_) | exact rfl))
        refine CallC.mk (Fn.mono rM ?_)
        rintro obs r ⟨rfl, rfl⟩
        conv => whnf
        repeat' (first
          | (refine NilG.mk fun bn hbn hbx => ?_; conv => whnf)
          | (refine Both.mk ?_ ?_ <;> conv => whnf)
          | ((first | (refine MkG.box 1 rfl rfl rfl (by decide) ?_) | (refine MkG.box 2 rfl rfl rfl (by decide) ?_) | (refine MkG.box 3 rfl rfl rfl (by decide) ?_) | (refine MkG.row ?_)); conv => whnf)
          | (refine LitG.row ?_; conv => whnf)
          | exact trivial
          | (refine Br.mk (fun hb => ?_) (fun hb => ?_) <;> (first | (exfalso; revert hb; decide) | ((try simp only [BL] at hb) <;> (try simp only [DL] at hb) <;> (first | (exfalso; omega) | (conv => whnf)))))
          | (refine And.intro ?_ ?_; (focus (first | exact id | exact rfl | exact trivial | (intro hg; first | exact hg | exact rfl | (simp; done) | (simp at hg ⊢; assumption)) | omega | decide | exact is2_c _ _ _ | exact is1_c _ _ | exact isS_c _ _ | exact isB_c _ _ | exact Nat.le_refl _ | assumption | exact mulLe (by decide) (by omega) | exact mulLe2 (by decide) (by omega) (by omega) | (intros; simp only [BL] at *; omega) | (intros; (try simp only [BL] at *); (try simp only [DL] at *); omega) | (intros; simp only [BL] at *; rw [wr_id (by omega) (by omega)]; omega) | (intro h1 h2; exact Bool.and_eq_true_iff.2 ⟨h1, h2⟩) | (intros; simp_all; done))); conv => whnf)
          | (refine Or.inr (And.intro rfl ?_); first | (refine congrArg intV ?_) | (refine congrArg boolV ?_) | (refine tupII ?_ ?_) | (refine tupIII ?_ ?_ ?_) | (refine tupU ?_ ?_ ?_ ?_ ?_) | exact rfl))
        have e9 : ((t : Nat) : Int).toNat - Int.toNat 0 = t := rfl
        rw [e9]
        have hrk : ∀ s, s < i → bfS x d i (q s) = s := fun s hs => hq.rank hs
        have hr0 : ∀ a, a < i → 0 ≤ bfS x d i a := fun a ha => by
          obtain ⟨s, h3, rfl⟩ := hq.onto ha
          rw [hrk s h3]
          omega
        have hsc := fun k j => scStl (fun a => (q a : Int)) k j
        clear rM r1 rO hb
        refine sem_loop tab_ok gamLg_ok mixed (by kernel_rfl) (O := lex) (fun j : Nat => ⟨[(4, .own 0), (97, .ov 1 1 0 t), (98, intV (t : Int)), (99, intV (j : Int))], [.row 3 1 i false (c1 (otS x d i j)), .row 3 1 i true (colStl fun a => (q a : Int))]⟩) (fun j => j ≤ t) (fun j => t - j) ⟨0, [0, 2], Nat.zero_le _, ?_⟩ fun j hj => ?_
        · refine Sub.of ?_ ?_ ?_
          repeat' (first | (refine And.intro ?_ ?_) | exact trivial | exact fun _ _ _ => hsc _ _ | (exact congrArg intV (by first | with_reducible rfl | with_reducible assumption)) | exact (rfl : AV.idsLt _ _ = true) | exact (rfl : _ = AV.ren _ (.own _)) | exact (rfl : _ = AV.ren _ (.fn _ _)) | exact (rfl : _ = AV.ren _ (.gh _)) | (exact congrArg intV (by assumption)) | (refine congrArg intV ((wr_id (by omega) (by omega)).trans (by omega))) | exact rfl | (simp only [NLc]; first | exact rfl | done) | exact all0 | exact fun h => Bool.noConfusion h | exact fun _ _ _ _ => rfl | omega)
          · intro a ha b hb
            have h9 := hr0 a ha
            have hb : b < 1 := hb
            obtain rfl : b = 0 := by omega
            show L.v (Value.int .i64 (if a < i then x a / (d : Int) else 0)) = L.v (Value.int .i64 (x a / (d : Int) + if bfS x d i a < ((0 : Nat) : Int) then 1 else 0))
            rw [if_pos ha, if_neg (by omega), Int.add_zero]
          · intro a ha b hb
            show iL (gI i (q a)) = iL (q a : Int)
            rw [gI_at (hq.lt ha)]
        rcases Nat.lt_or_ge j t with hjt | hjt
        · have hqj := hq.lt (k := j) (by omega)
          have hrj := hrk j (by omega)
          have hqb := quo_bnd hd0 (hx (q j) hqj)
          have hv0 : otS x d i j (q j) = x (q j) / (d : Int) := by
            unfold otS
            rw [hrj, if_neg (by omega), Int.add_zero]
          have hv1 : otS x d i (j + 1) (q j) = x (q j) / (d : Int) + 1 := by
            unfold otS
            rw [hrj, if_pos (by omega)]
          have hv : IntKind.i64.wrap (otS x d i j (q j) + 1) = otS x d i (j + 1) (q j) := by
            rw [hv0, hv1]
            exact wr_id (by omega) (by omega)
          have hoth : ∀ a, a < i → a ≠ q j → otS x d i j a = otS x d i (j + 1) a := fun a ha hne => by
            obtain ⟨z, hz1, rfl⟩ := hq.onto ha
            have hzj : z ≠ j := fun e => hne (by rw [e])
            unfold otS
            rw [hrk z hz1]
            by_cases h : z < j
            · rw [if_pos (by omega), if_pos (by omega)]
            · rw [if_neg (by omega), if_neg (by omega)]
          conv => whnf
          repeat' (first
            | (refine NilG.mk fun bn hbn hbx => ?_; conv => whnf)
            | (refine Both.mk ?_ ?_ <;> conv => whnf)
            | ((first | (refine MkG.box 1 rfl rfl rfl (by decide) ?_) | (refine MkG.box 2 rfl rfl rfl (by decide) ?_) | (refine MkG.box 3 rfl rfl rfl (by decide) ?_) | (refine MkG.row ?_)); conv => whnf)
            | (refine LitG.row ?_; conv => whnf)
            | exact trivial
            | (refine Br.mk (fun hb => ?_) (fun hb => ?_) <;> (first | (exfalso; revert hb; decide) | ((try simp only [BL] at hb) <;> (try simp only [DL] at hb) <;> (first | (exfalso; omega) | (conv => whnf)))))
            | (refine And.intro ?_ ?_; (focus (first | exact id | exact rfl | exact trivial | (intro hg; first | exact hg | exact rfl | (simp; done) | (simp at hg ⊢; assumption)) | omega | decide | exact is2_c _ _ _ | exact is1_c _ _ | exact isS_c _ _ | exact isB_c _ _ | exact Nat.le_refl _ | assumption | exact mulLe (by decide) (by omega) | exact mulLe2 (by decide) (by omega) (by omega) | (intros; simp only [BL] at *; omega) | (intros; (try simp only [BL] at *); (try simp only [DL] at *); omega) | (intros; simp only [BL] at *; rw [wr_id (by omega) (by omega)]; omega) | (intro h1 h2; exact Bool.and_eq_true_iff.2 ⟨h1, h2⟩) | (intros; simp_all; done))); conv => whnf)
            | (refine Or.inr (And.intro rfl ?_); first | (refine congrArg intV ?_) | (refine congrArg boolV ?_) | (refine tupII ?_ ?_) | (refine tupIII ?_ ?_ ?_) | (refine tupU ?_ ?_ ?_ ?_ ?_) | exact rfl))
          simp only [Int.toNat_natCast, Nat.zero_add, hv]
          refine ⟨j + 1, [?_, ?_], by omega, by omega, ?_⟩
          rotate_left 2
          refine Sub.of ?_ ?_ ?_
          repeat' (first | (refine And.intro ?_ ?_) | exact trivial | exact fun _ _ _ => hsc _ _ | (exact congrArg intV (by first | with_reducible rfl | with_reducible assumption)) | exact (rfl : AV.idsLt _ _ = true) | exact (rfl : _ = AV.ren _ (.own _)) | exact (rfl : _ = AV.ren _ (.fn _ _)) | exact (rfl : _ = AV.ren _ (.gh _)) | (exact congrArg intV (by assumption)) | (refine congrArg intV ((wr_id (by omega) (by omega)).trans (by omega))) | exact rfl | (simp only [NLc]; first | exact rfl | done) | exact all0 | exact fun h => Bool.noConfusion h | exact fun _ _ _ _ => rfl | omega)
          exact row_set1 rfl fun a ha hne => congrArg iL (hoth a ha hne)
        · obtain rfl : j = t := by omega
          conv => whnf
          repeat' (first
            | (refine NilG.mk fun bn hbn hbx => ?_; conv => whnf)
            | (refine Both.mk ?_ ?_ <;> conv => whnf)
            | ((first | (refine MkG.box 1 rfl rfl rfl (by decide) ?_) | (refine MkG.box 2 rfl rfl rfl (by decide) ?_) | (refine MkG.box 3 rfl rfl rfl (by decide) ?_) | (refine MkG.row ?_)); conv => whnf)
            | (refine LitG.row ?_; conv => whnf)
            | exact trivial
            | (refine Br.mk (fun hb => ?_) (fun hb => ?_) <;> (first | (exfalso; revert hb; decide) | ((try simp only [BL] at hb) <;> (try simp only [DL] at hb) <;> (first | (exfalso; omega) | (conv => whnf)))))
            | (refine And.intro ?_ ?_; (focus (first | exact id | exact rfl | exact trivial | (intro hg; first | exact hg | exact rfl | (simp; done) | (simp at hg ⊢; assumption)) | omega | decide | exact is2_c _ _ _ | exact is1_c _ _ | exact isS_c _ _ | exact isB_c _ _ | exact Nat.le_refl _ | assumption | exact mulLe (by decide) (by omega) | exact mulLe2 (by decide) (by omega) (by omega) | (intros; simp only [BL] at *; omega) | (intros; (try simp only [BL] at *); (try simp only [DL] at *); omega) | (intros; simp only [BL] at *; rw [wr_id (by omega) (by omega)]; omega) | (intro h1 h2; exact Bool.and_eq_true_iff.2 ⟨h1, h2⟩) | (intros; simp_all; done))); conv => whnf)
            | (refine Or.inr (And.intro rfl ?_); first | (refine congrArg intV ?_) | (refine congrArg boolV ?_) | (refine tupII ?_ ?_) | (refine tupIII ?_ ?_ ?_) | (refine tupU ?_ ?_ ?_ ?_ ?_) | exact rfl))
          refine .inr ⟨rfl, .inl ⟨hdv, _, rfl, ?_⟩⟩
          rw [ht]
          exact fun _ _ _ _ => rfl
    · have e1 : redD ((rSum x d k : Nat) : Int) d ≠ 1 := fun h => hdv ((red_one hd0).1 h)
      have e0 := redD_pos (n := ((rSum x d k : Nat) : Int)) hd0
      have e2 : cmpI ((redD ((rSum x d k : Nat) : Int) d : Nat) : Int) 1 = 1 := by
        unfold cmpI
        rw [if_neg (by omega), if_neg (by omega)]
      rw [e2] at r1
      clear e1 e0 e2
      generalize redD ((rSum x d k : Nat) : Int) d = sD at *
      generalize redN ((rSum x d k : Nat) : Int) d = sN at *
      unfold rtA igI igA at *
      conv => whnf
      repeat' (first
        | (refine NilG.mk fun bn hbn hbx => ?_; conv => whnf)
        | (refine Both.mk ?_ ?_ <;> conv => whnf)
        | ((first | (refine MkG.box 1 rfl rfl rfl (by decide) ?_) | (refine MkG.box 2 rfl rfl rfl (by decide) ?_) | (refine MkG.box 3 rfl rfl rfl (by decide) ?_) | (refine MkG.row ?_)); conv => whnf)
        | (refine LitG.row ?_; conv => whnf)
        | exact trivial
        | (refine Br.mk (fun hb => ?_) (fun hb => ?_) <;> (first | (exfalso; revert hb; decide) | ((try simp only [BL] at hb) <;> (try simp only [DL] at hb) <;> (first | (exfalso; omega) | (conv => whnf)))))
        | (refine And.intro ?_ ?_; (focus (first | exact id | exact rfl | exact trivial | (intro hg; first | exact hg | exact rfl | (simp; done) | (simp at hg ⊢; assumption)) | omega | decide | exact is2_c _ _ _ | exact is1_c _ _ | exact isS_c _ _ | exact isB_c _ _ | exact Nat.le_refl _ | assumption | exact mulLe (by decide) (by omega) | exact mulLe2 (by decide) (by omega) (by omega) | (intros; simp only [BL] at *; omega) | (intros; (try simp only [BL] at *); (try simp only [DL] at *); omega) | (intros; simp only [BL] at *; rw [wr_id (by omega) (by omega)]; omega) | (intro h1 h2; exact Bool.and_eq_true_iff.2 ⟨h1, h2⟩) | (intros; simp_all; done))); conv => whnf)
        | (refine Or.inr (And.intro rfl ?_); first | (refine congrArg intV ?_) | (refine congrArg boolV ?_) | (refine tupII ?_ ?_) | (refine tupIII ?_ ?_ ?_) | (refine tupU ?_ ?_ ?_ ?_ ?_) | exact rfl))
      all_goals repeat' (first
        | (refine CallC.mk (Fn.mono rO ?_); rintro obs r ⟨rfl, rfl⟩; ((conv => whnf); repeat' (first | (refine NilG.mk fun bn hbn hbx => ?_; conv => whnf) | (refine Both.mk ?_ ?_ <;> conv => whnf) | ((first | (refine MkG.box 1 rfl rfl rfl (by decide) ?_) | (refine MkG.box 2 rfl rfl rfl (by decide) ?_) | (refine MkG.box 3 rfl rfl rfl (by decide) ?_) | (refine MkG.row ?_)); conv => whnf) | (refine LitG.row ?_; conv => whnf) | exact trivial | (refine Br.mk (fun hb => ?_) (fun hb => ?_) <;> (first | (exfalso; revert hb; decide) | ((try simp only [BL] at hb) <;> (try simp only [DL] at hb) <;> conv => whnf))) | (refine And.intro ?_ ?_; (focus (first | exact id | exact rfl | exact trivial | (intro hg; first | exact hg | exact rfl | (simp; done) | (simp at hg ⊢; assumption)) | omega | decide | exact is2_c _ _ _ | exact is1_c _ _ | exact isS_c _ _ | exact isB_c _ _ | exact Nat.le_refl _ | assumption | exact mulLe (by decide) (by omega) | exact mulLe2 (by decide) (by omega) (by omega) | (intros; simp only [BL] at *; omega) | (intros; (try simp only [BL] at *); (try simp only [DL] at *); omega) | (intros; simp only [BL] at *; rw [wr_id (by omega) (by omega)]; omega) | (intro h1 h2; exact Bool.and_eq_true_iff.2 ⟨h1, h2⟩) | (intros; simp_all; done))); conv => whnf) | (refine Or.inr (And.intro rfl ?_); first | (refine congrArg intV ?_) | (refine congrArg boolV ?_) | (refine tupII ?_ ?_) | (refine tupIII ?_ ?_ ?_) | (refine tupU ?_ ?_ ?_ ?_ ?_) | exact rfl))))
        | (refine CallC.mk (Fn.mono r1 ?_); rintro obs r ⟨rfl, rfl⟩; ((conv => whnf); repeat' (first | (refine NilG.mk fun bn hbn hbx => ?_; conv => whnf) | (refine Both.mk ?_ ?_ <;> conv => whnf) | ((first | (refine MkG.box 1 rfl rfl rfl (by decide) ?_) | (refine MkG.box 2 rfl rfl rfl (by decide) ?_) | (refine MkG.box 3 rfl rfl rfl (by decide) ?_) | (refine MkG.row ?_)); conv => whnf) | (refine LitG.row ?_; conv => whnf) | exact trivial | (refine Br.mk (fun hb => ?_) (fun hb => ?_) <;> (first | (exfalso; revert hb; decide) | ((try simp only [BL] at hb) <;> (try simp only [DL] at hb) <;> conv => whnf))) | (refine And.intro ?_ ?_; (focus (first | exact id | exact rfl | exact trivial | (intro hg; first | exact hg | exact rfl | (simp; done) | (simp at hg ⊢; assumption)) | omega | decide | exact is2_c _ _ _ | exact is1_c _ _ | exact isS_c _ _ | exact isB_c _ _ | exact Nat.le_refl _ | assumption | exact mulLe (by decide) (by omega) | exact mulLe2 (by decide) (by omega) (by omega) | (intros; simp only [BL] at *; omega) | (intros; (try simp only [BL] at *); (try simp only [DL] at *); omega) | (intros; simp only [BL] at *; rw [wr_id (by omega) (by omega)]; omega) | (intro h1 h2; exact Bool.and_eq_true_iff.2 ⟨h1, h2⟩) | (intros; simp_all; done))); conv => whnf) | (refine Or.inr (And.intro rfl ?_); first | (refine congrArg intV ?_) | (refine congrArg boolV ?_) | (refine tupII ?_ ?_) | (refine tupIII ?_ ?_ ?_) | (refine tupU ?_ ?_ ?_ ?_ ?_) | exact rfl)))))
      exact .inr ⟨rfl, .inr ⟨hdv, rfl⟩⟩
end Go.Proofs.YtjfnhehjhicnoaaDoor
