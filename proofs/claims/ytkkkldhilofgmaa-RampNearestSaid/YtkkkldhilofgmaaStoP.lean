/-
  Storages: the least costs of the levels, period by period; a plain law.
-/
import Derived.Test.YtkkkldhilofgmaaCvxS
namespace Go.Proofs.Ytkkkldhilofgmaa
open Go.RowKit

theorem jP_pos {p q : Nat → Int} : ∀ {i : Nat}, (∀ k, k < i → 1 ≤ p k) → ∀ c, c < jN q i → 1 ≤ jP p q i c
  | 0, _, c, hc => absurd hc (Nat.not_lt_zero c)
  | i + 1, h, c, hc => by
    have ih := jP_pos (p := p) (q := q) (i := i) (fun k hk => h k (by omega))
    have hi := h i (by omega)
    simp only [jN] at hc
    simp only [jP]
    by_cases hb : jB q i
    · rw [if_pos hb] at hc ⊢
      have := ih c hc
      split <;> omega
    · rw [if_neg hb] at hc ⊢
      by_cases e : c = jN q i
      · rw [if_pos e]; exact hi
      · rw [if_neg e]; exact ih c (by omega)
theorem jQ_in {q : Nat → Int} {P : Int → Prop} : ∀ {i : Nat}, (∀ k, k < i → P (q k)) → ∀ c, c < jN q i → P (jQ q i c)
  | 0, _, c, hc => absurd hc (Nat.not_lt_zero c)
  | i + 1, h, c, hc => by
    have ih := jQ_in (q := q) (P := P) (i := i) (fun k hk => h k (by omega))
    have hi := h i (by omega)
    simp only [jN] at hc
    simp only [jQ]
    by_cases hb : jB q i
    · rw [if_pos hb] at hc ⊢
      exact ih c hc
    · rw [if_neg hb] at hc ⊢
      by_cases e : c = jN q i
      · rw [if_pos e]; exact hi
      · rw [if_neg e]; exact ih c (by omega)
theorem jQ_inc {q : Nat → Int} : ∀ {i : Nat}, (∀ a b, a ≤ b → b < i → q a ≤ q b) → ∀ c, c + 1 < jN q i → jQ q i c < jQ q i (c + 1)
  | 0, _, c, hc => absurd hc (Nat.not_lt_zero _)
  | i + 1, h, c, hc => by
    have ih := jQ_inc (q := q) (i := i) (fun a b h1 h2 => h a b h1 (by omega))
    simp only [jN] at hc
    simp only [jQ]
    by_cases hb : jB q i
    · rw [if_pos hb] at hc
      simp only [if_pos hb]
      exact ih c hc
    · rw [if_neg hb] at hc
      simp only [if_neg hb]
      by_cases e : c + 1 = jN q i
      · rw [if_neg (by omega), if_pos e]
        have hi : 0 < i := by
          rcases Nat.eq_zero_or_pos i with h0 | h0
          · subst h0; simp only [jN] at e; omega
          · exact h0
        have e1 : c = jN q i - 1 := by omega
        rw [e1, jQ_last hi]
        have h1 := h (i - 1) i (by omega) (by omega)
        have h2 : ¬ q (i - 1) = q i := fun h2 => hb ⟨hi, h2⟩
        omega
      · rw [if_neg (by omega), if_neg e]
        exact ih c (by omega)
theorem S_el {f : Nat → Int} {n c : Nat} (h : ∀ k, k < n → 0 ≤ f k) (hc : c < n) : f c ≤ S f n := by
  have h1 := S_mono (p := f) (i := c + 1) (j := n) h hc
  have h2 := S_mono (p := f) (i := 0) (j := c) (fun k hk => h k (by omega)) (Nat.zero_le c)
  have h3 : S f (c + 1) = S f c + f c := rfl
  have h4 : S f 0 = 0 := rfl
  omega
theorem j_ok {lo v : Int} {k : Nat} {p q : Nat → Int} (hp : ∀ i, i < k → 1 ≤ p i ∧ -10000000 ≤ q i ∧ q i ≤ 10000000) (hs : ∀ a b, a ≤ b → b < k → q a ≤ q b) (hn : k ≤ 64) (hlo : -1000000 ≤ lo) (hT : lo + S p k ≤ 1000000)
    (hv : ∀ m : Nat, (m : Int) ≤ S p k → -1000000000000000 ≤ v + S (ct p q m) k ∧ v + S (ct p q m) k ≤ 1000000000000000) : okCx lo v (jN q k) (jP p q k) (jQ q k) := by
  have hp1 : ∀ i, i < k → 1 ≤ p i := fun i hi => (hp i hi).1
  have h1 := jP_pos (q := q) hp1
  have h0 : ∀ i, i < jN q k → 0 ≤ jP p q k i := fun i hi => by have := h1 i hi; omega
  have hS := jP_sum p q k
  have hpos := S_mono (p := p) (i := 0) (j := k) (fun i hi => by have := hp1 i hi; omega) (Nat.zero_le _)
  have hz : S p 0 = 0 := rfl
  have hv0 := hv 0 (by have : ((0 : Nat) : Int) = 0 := rfl; omega)
  rw [show (((0 : Nat) : Int)) = 0 from rfl, ct_zero hp1, Int.add_zero] at hv0
  have hrun := run_bd (v := v) (n := jN q k) (p := jP p q k) (q := jQ q k) h1 fun m hm => by
    rw [hS] at hm
    have := hv m hm
    unfold cW
    rw [j_val (m : Int) (fun i hi => by have := hp1 i hi; omega)]
    exact this
  have hjn := jN_le q k
  refine ⟨by omega, hlo, by omega, hv0.1, hv0.2, fun i hi => ?_, fun i hi => ?_, fun i hi => ?_⟩
  · have h2 := S_el h0 hi
    have h3 := jQ_in (q := q) (P := fun z => -10000000 ≤ z ∧ z ≤ 10000000) (fun i hi => (hp i hi).2) i hi
    have h4 := h1 i hi
    rw [hS] at h2
    exact ⟨h4, by omega, h3.1, h3.2⟩
  · exact jQ_inc hs i hi
  · have h2 := S_mono (p := jP p q k) h0 hi
    rw [hS] at h2
    exact ⟨by omega, hrun i hi⟩
end Go.Proofs.Ytkkkldhilofgmaa

namespace Go.Proofs.Ytkkkldhilofgmaa
open Go.RowKit

/-- a convex function -/
structure Cxt where
  lo : Int
  v : Int
  n : Nat
  p : Nat → Int
  q : Nat → Int
def Cxt.av (f : Cxt) : AV := cxV f.lo f.v f.n f.p f.q
def Cxt.ok (f : Cxt) : Prop := okCx f.lo f.v f.n f.p f.q
/-- the greatest argument; the value at an argument -/
def Cxt.hi (f : Cxt) : Int := f.lo + S f.p f.n
def Cxt.V (f : Cxt) (k : Int) : Int := cW f.v f.n f.p f.q (k - f.lo).toNat
def Cxt.in (f : Cxt) (k : Int) : Prop := f.lo ≤ k ∧ k ≤ f.hi
theorem Cxt.le {f : Cxt} (h : f.ok) : f.lo ≤ f.hi := by
  have h1 : okCx f.lo f.v f.n f.p f.q := h
  have := h1.sS (Nat.le_refl f.n)
  unfold Cxt.hi
  omega
theorem Cxt.V_at {f : Cxt} {k : Int} {m : Nat} (h : k = f.lo + m) : f.V k = cW f.v f.n f.p f.q m := by
  unfold Cxt.V
  rw [h, show (f.lo + (m : Int) - f.lo).toNat = m by omega]
/-- a function and an error -/
def fnG (F : Int → Cxt → Prop) (obs : List OB) (r : AV) : Prop := obs = [] ∧ ∃ e f, r = .tup [f.av, intV e] ∧ F e f
def nulC : Cxt := ⟨0, 0, 0, fun _ => 0, fun _ => 0⟩

/-- g is f and f' convolved -/
def cvR (f f' g : Cxt) : Prop := g.ok ∧ g.lo = f.lo + f'.lo ∧ g.hi = f.hi + f'.hi ∧ g.n ≤ f.n + f'.n ∧
  ∀ k, g.in k → (∀ i j, f.in i → f'.in j → i + j = k → g.V k ≤ f.V i + f'.V j) ∧ ∃ i j, f.in i ∧ f'.in j ∧ i + j = k ∧ g.V k = f.V i + f'.V j
/-- numbers are small enough for it -/
def cvB (f f' : Cxt) : Prop := f.n + f'.n ≤ 64 ∧ -1000000 ≤ f.lo + f'.lo ∧ f.hi + f'.hi ≤ 1000000 ∧ ∀ i j, f.in i → f'.in j → -1000000000000000 ≤ f.V i + f'.V j ∧ f.V i + f'.V j ≤ 1000000000000000
theorem convG (f f' : Cxt) (h1 : f.ok) (h2 : f'.ok) (hB : cvB f f') : Fn Try.prog 18 [f.av, f'.av] (fnG fun e g => e = 0 ∧ cvR f f' g) :=
  (cxConvolve f.lo f.v f.n f.p f.q f'.lo f'.v f'.n f'.p f'.q (by have := h1.1; unfold maxLen; omega) (by have := h2.1; unfold maxLen; omega)).mono fun obs r ⟨g1, g2⟩ => by
    have hE : cx2E f.lo f.v f.n f.p f.q f'.lo f'.v f'.n f'.p f'.q = 0 := by
      unfold cx2E
      rw [if_neg (fun h => h (ok_cxE h1))]
      exact ok_cxE h2
    rcases g2 with ⟨g2, -⟩ | ⟨-, π, hπ, -, hm⟩
    · exact absurd hE g2
    have hT : Two f.n f'.n f.p f.q f'.p f'.q := ⟨okCx.pos h1, okCx.pos h2, fun j hj => Int.le_of_lt (h1.2.2.2.2.2.2.1 j hj), fun j hj => Int.le_of_lt (h2.2.2.2.2.2.2.1 j hj)⟩
    have hcp : ∀ i, i < f.n + f'.n → 1 ≤ cat f.n f.p f'.p (π i) ∧ -10000000 ≤ cat f.n f.q f'.q (π i) ∧ cat f.n f.q f'.q (π i) ≤ 10000000 := fun i hi => by
      have h9 := hπ.lt hi
      unfold cat
      by_cases e : π i < f.n
      · simp only [if_pos e]
        have := h1.2.2.2.2.2.1 _ e
        omega
      · simp only [if_neg e]
        have := h2.2.2.2.2.2.1 (π i - f.n) (by omega)
        omega
    have hsum : S (fun z => cat f.n f.p f'.p (π z)) (f.n + f'.n) = S f.p f.n + S f'.p f'.n := by
      rw [hπ.sum (cat f.n f.p f'.p), S_add]
      congr 1
      · exact S_congr fun k hk => if_pos hk
      · exact S_congr fun k _ => by
          unfold cat
          rw [if_neg (by omega), Nat.add_sub_cancel_left]
    have hs1 := okCx.sS h1 (Nat.le_refl f.n)
    have hs2 := okCx.sS h2 (Nat.le_refl f'.n)
    have hin : ∀ i : Nat, (i : Int) ≤ S f.p f.n → f.in (f.lo + i) := fun i hi => by unfold Cxt.in Cxt.hi; omega
    have hin' : ∀ i : Nat, (i : Int) ≤ S f'.p f'.n → f'.in (f'.lo + i) := fun i hi => by unfold Cxt.in Cxt.hi; omega
    obtain ⟨b1, b2, b3, b4⟩ := hB
    unfold Cxt.hi at b3
    -- the value of the sorted pieces
    have hval : ∀ T : Nat, (T : Int) ≤ S f.p f.n + S f'.p f'.n → ∃ i j : Nat, (i : Int) ≤ S f.p f.n ∧ (j : Int) ≤ S f'.p f'.n ∧ i + j = T ∧ f.v + f'.v + S (ct (fun z => cat f.n f.p f'.p (π z)) (fun z => cat f.n f.q f'.q (π z)) T) (f.n + f'.n) = f.V (f.lo + i) + f'.V (f'.lo + j) := fun T hT' => by
      obtain ⟨i, j, hi, hj, hij, hv⟩ := hT.have' hπ (T := (T : Int)) ⟨by omega, hT'⟩
      obtain ⟨i, rfl⟩ := Int.eq_ofNat_of_zero_le hi.1
      obtain ⟨j, rfl⟩ := Int.eq_ofNat_of_zero_le hj.1
      refine ⟨i, j, hi.2, hj.2, by omega, ?_⟩
      rw [Cxt.V_at rfl, Cxt.V_at rfl]
      unfold cW
      omega
    have hok := j_ok (lo := f.lo + f'.lo) (v := f.v + f'.v) (k := f.n + f'.n) (p := fun z => cat f.n f.p f'.p (π z)) (q := fun z => cat f.n f.q f'.q (π z)) hcp (fun a b hab hb => hπ.le hab hb) b1 b2 (by rw [hsum]; omega) fun m hm => by
      rw [hsum] at hm
      obtain ⟨i, j, hi, hj, -, hv⟩ := hval m hm
      rw [hv]
      exact b4 _ _ (hin i hi) (hin' j hj)
    rcases hm with ⟨h3, rfl⟩ | ⟨h3, rfl⟩
    rotate_left
    · exact absurd (ok_cxE hok) h3
    have hJ := jP_sum (fun z => cat f.n f.p f'.p (π z)) (fun z => cat f.n f.q f'.q (π z)) (f.n + f'.n)
    rw [hsum] at hJ
    refine ⟨g1, 0, ⟨f.lo + f'.lo, f.v + f'.v, _, _, _⟩, rfl, rfl, hok, rfl, ?_, jN_le _ _, fun k hk => ?_⟩
    · unfold Cxt.hi
      simp only []
      omega
    · have hk1 : f.lo + f'.lo ≤ k := hk.1
      have hk2 : k ≤ f.lo + f'.lo + S (jP (fun z => cat f.n f.p f'.p (π z)) (fun z => cat f.n f.q f'.q (π z)) (f.n + f'.n)) (jN (fun z => cat f.n f.q f'.q (π z)) (f.n + f'.n)) := hk.2
      rw [hJ] at hk2
      obtain ⟨T, hTk⟩ : ∃ T : Nat, k = f.lo + f'.lo + T := ⟨(k - (f.lo + f'.lo)).toNat, by omega⟩
      have hV : Cxt.V ⟨f.lo + f'.lo, f.v + f'.v, jN (fun z => cat f.n f.q f'.q (π z)) (f.n + f'.n), jP (fun z => cat f.n f.p f'.p (π z)) (fun z => cat f.n f.q f'.q (π z)) (f.n + f'.n), jQ (fun z => cat f.n f.q f'.q (π z)) (f.n + f'.n)⟩ k = f.v + f'.v + S (ct (fun z => cat f.n f.p f'.p (π z)) (fun z => cat f.n f.q f'.q (π z)) T) (f.n + f'.n) := by
        rw [Cxt.V_at (m := T) hTk]
        unfold cW
        rw [j_val (T : Int) (fun i hi => by have := (hcp i hi).1; omega)]
      rw [hV]
      constructor
      · intro i j hi hj hij
        obtain ⟨a, rfl⟩ : ∃ a : Nat, i = f.lo + a := ⟨(i - f.lo).toNat, by have := hi.1; omega⟩
        obtain ⟨b, rfl⟩ : ∃ b : Nat, j = f'.lo + b := ⟨(j - f'.lo).toNat, by have := hj.1; omega⟩
        have ha := hi.2
        have hb := hj.2
        unfold Cxt.hi at ha hb
        have := hT.least hπ (i := (a : Int)) (j := (b : Int)) (T := (T : Int)) ⟨by omega, by omega⟩ ⟨by omega, by omega⟩ (by omega)
        rw [Cxt.V_at rfl, Cxt.V_at rfl]
        unfold cW
        omega
      · obtain ⟨i, j, hi, hj, hij, hv⟩ := hval T (by omega)
        exact ⟨_, _, hin i hi, hin' j hj, by omega, hv⟩

theorem cn_n (p : Nat → Int) (L E : Int) : ∀ n, cn p L E n ≤ n
  | 0 => Nat.le_refl 0
  | n + 1 => by
    have := cn_n p L E n
    simp only [cn]
    split <;> omega
/-- g is the part of f from low to high -/
def rsR (f : Cxt) (low high : Int) (g : Cxt) : Prop := g.ok ∧ g.lo = max f.lo low ∧ g.hi = min f.hi high ∧ g.n ≤ f.n ∧ ∀ k, g.in k → f.in k ∧ g.V k = f.V k
theorem restG (f : Cxt) (low high : Int) (h1 : f.ok) : Fn Try.prog 74 [f.av, intV low, intV high] (fnG fun e g => (max f.lo low > min f.hi high ∧ e = 8 ∧ g.n = 0) ∨ (max f.lo low ≤ min f.hi high ∧ e = 0 ∧ rsR f low high g)) :=
  (cxRestrict f.lo f.v f.n f.p f.q low high (by have := h1.1; unfold maxLen; omega)).res fun obs r ⟨g1, g2⟩ => by
    have hs1 := okCx.sS h1 (Nat.le_refl f.n)
    have hz := ok_cxE h1
    rcases g2 with ⟨g2, -⟩ | ⟨-, g3, rfl⟩ | ⟨-, g3, L, E, hL, hE, rfl⟩
    · exact absurd hz g2
    · exact ⟨_, ⟨g1, 8, nulC, rfl, .inl ⟨g3, rfl, rfl⟩⟩, csTup (Le.cons csNul (Le.cons (Le1.refl _) Le.nil))⟩
    · unfold rsL at hL g3
      unfold rsE at hE g3
      have hLE : L ≤ E := by omega
      have hET : (E : Int) ≤ S f.p f.n := by omega
      have hok := cut_ok h1 hLE hET
      have hcT := cut_T (p := f.p) (n := f.n) (L := (L : Int)) (E := (E : Int)) (okCx.pos h1) (by omega) (by omega) hET
      refine ⟨_, ⟨g1, 0, ⟨f.lo + L, cW f.v f.n f.p f.q L, _, _, _⟩, rfl, .inr ⟨g3, rfl, hok, ?_, ?_, cn_n _ _ _ _, fun k hk => ?_⟩⟩, Le1.refl _⟩
      · show f.lo + (L : Int) = max f.lo low
        omega
      · show f.lo + (L : Int) + S (fun j => ln f.p L E (cA f.p L E f.n + j)) (cn f.p L E f.n) = min f.hi high
        rw [hcT]
        unfold Cxt.hi
        omega
      · have hk1 : f.lo + (L : Int) ≤ k := hk.1
        have hk2 : k ≤ f.lo + (L : Int) + S (fun j => ln f.p L E (cA f.p L E f.n + j)) (cn f.p L E f.n) := hk.2
        rw [hcT] at hk2
        obtain ⟨m, hm⟩ : ∃ m : Nat, k = f.lo + (L : Int) + m := ⟨(k - (f.lo + L)).toNat, by omega⟩
        refine ⟨⟨by omega, by unfold Cxt.hi; omega⟩, ?_⟩
        rw [Cxt.V_at (m := m) hm, Cxt.V_at (m := L + m) (by omega)]
        exact cut_W h1 hLE hET m (by omega)
end Go.Proofs.Ytkkkldhilofgmaa

namespace Go.Proofs.Ytkkkldhilofgmaa
open Go.RowKit

theorem down_le {g : Int → Int} {a b : Int} (h : ∀ k, a ≤ k → k < b → g (k + 1) ≤ g k) : ∀ (d : Nat) (i : Int), a ≤ i → i + d ≤ b → g (i + d) ≤ g i
  | 0, i, _, _ => by simp
  | d + 1, i, h1, h2 => by
    have h3 := down_le h d i h1 (by omega)
    have h4 := h (i + d) (by omega) (by omega)
    rw [show i + ((d + 1 : Nat) : Int) = i + (d : Int) + 1 by omega]
    omega
theorem up_lt {g : Int → Int} {a b : Int} (h : ∀ k, a ≤ k → k < b → g k < g (k + 1)) : ∀ (d : Nat) (i : Int), a ≤ i → i + d + 1 ≤ b → g i < g (i + d + 1)
  | 0, i, h1, h2 => by
    have := h i h1 (by omega)
    simpa using this
  | d + 1, i, h1, h2 => by
    have h3 := up_lt h d i h1 (by omega)
    have h4 := h (i + d + 1) (by omega) (by omega)
    rw [show i + ((d + 1 : Nat) : Int) + 1 = i + (d : Int) + 1 + 1 by omega]
    omega
theorem up_le {g : Int → Int} {a b : Int} (h : ∀ k, a ≤ k → k < b → g k ≤ g (k + 1)) : ∀ (d : Nat) (i : Int), a ≤ i → i + d ≤ b → g i ≤ g (i + d)
  | 0, i, _, _ => by simp
  | d + 1, i, h1, h2 => by
    have h3 := up_le h d i h1 (by omega)
    have h4 := h (i + d) (by omega) (by omega)
    rw [show i + ((d + 1 : Nat) : Int) = i + (d : Int) + 1 by omega]
    omega
theorem down_lt {g : Int → Int} {a b : Int} (h : ∀ k, a ≤ k → k < b → g (k + 1) < g k) : ∀ (d : Nat) (i : Int), a ≤ i → i + d + 1 ≤ b → g (i + d + 1) < g i
  | 0, i, h1, h2 => by
    have := h i h1 (by omega)
    simpa using this
  | d + 1, i, h1, h2 => by
    have h3 := down_lt h d i h1 (by omega)
    have h4 := h (i + d + 1) (by omega) (by omega)
    rw [show i + ((d + 1 : Nat) : Int) + 1 = i + (d : Int) + 1 + 1 by omega]
    omega
/-- the least argument from which on the slopes are at least t -/
def Cxt.at (f : Cxt) (t : Int) : Int := f.lo + S (SP1 f.p f.q t) f.n
theorem Cxt.at_in {f : Cxt} (h : f.ok) (t : Int) : f.in (f.at t) := by
  have := SP1_in (q := f.q) (okCx.pos h) t
  unfold Cxt.in Cxt.at Cxt.hi
  omega
theorem Cxt.slope {f : Cxt} (h : f.ok) (t : Int) {k : Int} (h1 : f.lo ≤ k) (h2 : k < f.hi) : (k < f.at t → f.V (k + 1) - f.V k < t) ∧ (f.at t ≤ k → t ≤ f.V (k + 1) - f.V k) := by
  obtain ⟨m, rfl⟩ : ∃ m : Nat, k = f.lo + m := ⟨(k - f.lo).toNat, by omega⟩
  unfold Cxt.hi at h2
  obtain ⟨i, hi, h3, h4⟩ := piece (okCx.pos h) (m := (m : Int)) (by omega) (by omega)
  have hu := unit_lt (okCx.pos h) (okCx.inc h) t hi h3 h4
  have hs := cW_step h hi h3 h4
  rw [Cxt.V_at (m := m + 1) (by omega), Cxt.V_at rfl, hs]
  unfold Cxt.at
  exact ⟨fun h => by have := hu.1 (by omega); omega, fun h => by have := hu.2 (by omega); omega⟩
/-- the first argument of the least value -/
theorem Cxt.first {f : Cxt} (h : f.ok) {k : Int} (hk : f.in k) : f.V (f.at 0) ≤ f.V k ∧ (k < f.at 0 → f.V (f.at 0) < f.V k) := by
  have hin := Cxt.at_in h 0
  unfold Cxt.in at hin hk
  by_cases e : f.at 0 ≤ k
  · refine ⟨?_, fun h9 => by omega⟩
    have := up_le (g := f.V) (a := f.at 0) (b := f.hi) (fun z a b => by have := (Cxt.slope h 0 (k := z) (by omega) b).2 a; omega) (k - f.at 0).toNat (f.at 0) (Int.le_refl _) (by omega)
    rwa [show f.at 0 + ((k - f.at 0).toNat : Int) = k by omega] at this
  · have := down_lt (g := f.V) (a := f.lo) (b := f.at 0) (fun z a b => by have := (Cxt.slope h 0 (k := z) a (by omega)).1 b; omega) (f.at 0 - k - 1).toNat k hk.1 (by omega)
    rw [show k + ((f.at 0 - k - 1).toNat : Int) + 1 = f.at 0 by omega] at this
    exact ⟨by omega, fun _ => this⟩
/-- the last argument between A and B of the least value less t times the argument -/
theorem Cxt.last {f : Cxt} (h : f.ok) (t : Int) {A B c : Int} (hA : f.lo ≤ A) (hAB : A ≤ B) (hB : B ≤ f.hi) (hc : c = min (max (f.at (t + 1)) A) B) {k : Int} (h1 : A ≤ k) (h2 : k ≤ B) :
    f.V c - t * c ≤ f.V k - t * k ∧ (c < k → f.V c - t * c < f.V k - t * k) := by
  have e1 : ∀ z : Int, t * (z + 1) = t * z + t := fun z => by rw [Int.mul_add, Int.mul_one]
  by_cases e : c < k
  · have := up_lt (g := fun z => f.V z - t * z) (a := c) (b := B) (fun z a b => by
      have h3 := (Cxt.slope h (t + 1) (k := z) (by omega) (by omega)).2 (by omega)
      have h4 := e1 z
      show f.V z - t * z < f.V (z + 1) - t * (z + 1)
      omega) (k - c - 1).toNat c (Int.le_refl _) (by omega)
    rw [show c + ((k - c - 1).toNat : Int) + 1 = k by omega] at this
    have this : f.V c - t * c < f.V k - t * k := this
    exact ⟨by omega, fun _ => this⟩
  · refine ⟨?_, fun h9 => absurd h9 e⟩
    have := down_le (g := fun z => f.V z - t * z) (a := A) (b := c) (fun z a b => by
      have h3 := (Cxt.slope h (t + 1) (k := z) (by omega) (by omega)).1 (by omega)
      have h4 := e1 z
      show f.V (z + 1) - t * (z + 1) ≤ f.V z - t * z
      omega) (c - k).toNat k h1 (by omega)
    rw [show k + ((c - k).toNat : Int) = c by omega] at this
    exact this
end Go.Proofs.Ytkkkldhilofgmaa

namespace Go.Proofs.Ytkkkldhilofgmaa
open Go.RowKit

structure Sto where
  C : Int
  D : Int
  cap : Int
  beg : Int
  en : Int
def stOk (s : Sto) : Prop := 0 ≤ s.C ∧ s.C ≤ 100000 ∧ 0 ≤ s.D ∧ s.D ≤ 100000 ∧ 0 ≤ s.cap ∧ s.cap ≤ 100000 ∧ 0 ≤ s.beg ∧ s.beg ≤ s.cap ∧ 0 ≤ s.en ∧ s.en ≤ s.cap
instance (s : Sto) : Decidable (stOk s) := by unfold stOk; infer_instance
def prOk (m : Nat) (pr : Nat → Int) : Prop := ∀ k, k < m → -1000000 ≤ pr k ∧ pr k ≤ 1000000
/-- the error of a storage with prices -/
def stoE (s : Sto) (m : Nat) (pr : Nat → Int) : Int := if ¬ stOk s then 4 else if 24 < m then 2 else fst (fun k => if -1000000 ≤ pr k ∧ pr k ≤ 1000000 then 0 else 4) m
theorem stoE_zero {s : Sto} {m : Nat} {pr : Nat → Int} (h : stoE s m pr = 0) : stOk s ∧ m ≤ 24 ∧ prOk m pr := by
  unfold stoE at h
  split at h
  · cases h
  · rename_i h1
    split at h
    · cases h
    · refine ⟨Decidable.not_not.1 h1, by omega, fun k hk => ?_⟩
      have this : (if -1000000 ≤ pr k ∧ pr k ≤ 1000000 then (0 : Int) else 4) = 0 := fst_zero h k hk
      split at this
      · assumption
      · cases this
/-- one slope -/
def lineC (lo hi sl : Int) : Cxt := ⟨lo, lo * sl, if lo < hi then 1 else 0, fun _ => hi - lo, fun _ => sl⟩
theorem lineC_hi {lo hi sl : Int} (h : lo ≤ hi) : (lineC lo hi sl).hi = hi := by
  show lo + S (fun _ => hi - lo) (if lo < hi then 1 else 0) = hi
  by_cases e : lo < hi
  · rw [if_pos e]; show lo + (0 + (hi - lo)) = hi; omega
  · rw [if_neg e]; show lo + 0 = hi; omega
theorem lineC_V {lo hi sl k : Int} (h1 : lo ≤ k) (h2 : k ≤ hi) : (lineC lo hi sl).V k = sl * k := by
  obtain ⟨m, rfl⟩ : ∃ m : Nat, k = lo + m := ⟨(k - lo).toNat, by omega⟩
  refine (Cxt.V_at (f := lineC lo hi sl) (m := m) rfl).trans ?_
  show lo * sl + S (ct (fun _ => hi - lo) (fun _ => sl) m) (if lo < hi then 1 else 0) = sl * (lo + m)
  rw [Int.mul_add, Int.mul_comm lo sl]
  by_cases e : lo < hi
  · rw [if_pos e]
    show sl * lo + (0 + min (max ((m : Int) - 0) 0) (hi - lo) * sl) = sl * lo + sl * m
    rw [show min (max ((m : Int) - 0) 0) (hi - lo) = m by omega, Int.mul_comm (m : Int) sl]
    omega
  · rw [if_neg e, show (m : Int) = 0 by omega, Int.mul_zero]
    rfl
theorem lineC_ok {lo hi sl : Int} (h : lo ≤ hi) (h1 : -1000000 ≤ lo) (h2 : hi ≤ 1000000) (h3 : -1000000 ≤ sl ∧ sl ≤ 1000000) : (lineC lo hi sl).ok := by
  have hm : ∀ x : Int, -1000000 ≤ x → x ≤ 1000000 → -1000000000000 ≤ x * sl ∧ x * sl ≤ 1000000000000 := fun x a b => by
    rcases Int.le_total 0 x with h0 | h0
    · have := mulB (a := x) (b := sl) (A := 1000000) (B := 1000000) (by omega) (by omega) (by omega) (by omega) (by omega)
      omega
    · have := mulB (a := -x) (b := sl) (A := 1000000) (B := 1000000) (by omega) (by omega) (by omega) (by omega) (by omega)
      rw [Int.neg_mul] at this
      omega
  have hl := hm lo (by omega) (by omega)
  have hh := hm hi (by omega) (by omega)
  show okCx lo (lo * sl) (if lo < hi then 1 else 0) (fun _ => hi - lo) (fun _ => sl)
  by_cases e : lo < hi
  · rw [if_pos e]
    refine ⟨by omega, h1, by omega, by omega, by omega, fun k hk => ⟨by show 1 ≤ hi - lo; omega, by show hi - lo ≤ 2000000; omega, by show -10000000 ≤ sl; omega, by show sl ≤ 10000000; omega⟩, fun k hk => by omega, fun k hk => ?_⟩
    match k, hk with
    | 0, _ => exact ⟨by show lo + 0 ≤ 1000000; omega, by show -1000000000000000 ≤ lo * sl + 0 ∧ lo * sl + 0 ≤ 1000000000000000; omega⟩
    | 1, _ =>
      have e2 : lo * sl + (0 + (hi - lo) * sl) = hi * sl := by rw [Int.sub_mul]; omega
      exact ⟨by show lo + (0 + (hi - lo)) ≤ 1000000; omega, by show -1000000000000000 ≤ lo * sl + (0 + (hi - lo) * sl) ∧ lo * sl + (0 + (hi - lo) * sl) ≤ 1000000000000000; rw [e2]; omega⟩
  · rw [if_neg e]
    refine ⟨by omega, h1, by omega, by omega, by omega, fun k hk => absurd hk (Nat.not_lt_zero k), fun k hk => absurd hk (Nat.not_lt_zero _), fun k hk => ?_⟩
    obtain rfl : k = 0 := by omega
    exact ⟨by show lo + 0 ≤ 1000000; omega, by show -1000000000000000 ≤ lo * sl + 0 ∧ lo * sl + 0 ≤ 1000000000000000; omega⟩
theorem lineC_n (lo hi sl : Int) : (lineC lo hi sl).n ≤ 1 := by
  show (if lo < hi then 1 else 0) ≤ 1
  split <;> omega

/-- the costs of the levels after a period -/
def stR (s : Sto) (pr : Int) (f g : Cxt) : Prop := g.ok ∧ g.lo = max (f.lo - s.D) 0 ∧ g.hi = min (f.hi + s.C) s.cap ∧ g.n ≤ f.n + 1 ∧
  ∀ k, g.in k → (∀ b, f.in b → -s.D ≤ k - b → k - b ≤ s.C → g.V k ≤ f.V b + pr * (k - b)) ∧ ∃ b, f.in b ∧ -s.D ≤ k - b ∧ k - b ≤ s.C ∧ g.V k = f.V b + pr * (k - b)
/-- what is known of the costs after t periods -/
def stB (s : Sto) (t : Nat) (f : Cxt) : Prop := f.ok ∧ 0 ≤ f.lo ∧ f.hi ≤ s.cap ∧ f.n ≤ t ∧ ∀ k, f.in k → -100000000000 * (t : Int) ≤ f.V k ∧ f.V k ≤ 100000000000 * (t : Int)
def begC (s : Sto) : Cxt := ⟨s.beg, 0, 0, fun _ => 0, fun _ => 0⟩
theorem begC_B {s : Sto} (h : stOk s) : stB s 0 (begC s) ∧ (begC s).lo = s.beg ∧ (begC s).hi = s.beg ∧ (begC s).V s.beg = 0 := by
  unfold stOk at h
  have hV : ∀ k, (begC s).in k → (begC s).V k = 0 := fun k _ => by
    show (0 : Int) + S (ct (fun _ => 0) (fun _ => 0) ((k - s.beg).toNat : Int)) 0 = 0
    rfl
  have hh : (begC s).hi = s.beg := by show s.beg + 0 = s.beg; omega
  refine ⟨⟨⟨by show 0 ≤ 64; decide, by show -1000000 ≤ s.beg; omega, by show s.beg ≤ 1000000; omega, by show (-1000000000000000 : Int) ≤ 0; decide, by show (0 : Int) ≤ 1000000000000000; decide, fun k hk => absurd hk (Nat.not_lt_zero k), fun k hk => absurd hk (Nat.not_lt_zero _), fun k hk => ?_⟩, by show 0 ≤ s.beg; omega, by rw [hh]; omega, Nat.le_refl 0, fun k hk => ?_⟩, rfl, hh, hV _ ⟨Int.le_refl _, by rw [hh]; exact Int.le_refl _⟩⟩
  · have hk : k ≤ 0 := hk
    obtain rfl : k = 0 := by omega
    exact ⟨by show s.beg + 0 ≤ 1000000; omega, by show (-1000000000000000 : Int) ≤ 0 + 0 ∧ (0 : Int) + 0 ≤ 1000000000000000; decide⟩
  · rw [hV k hk]
    simp
theorem pr_bd {pr d : Int} (h : -1000000 ≤ pr ∧ pr ≤ 1000000) (hd : -100000 ≤ d ∧ d ≤ 100000) : -100000000000 ≤ pr * d ∧ pr * d ≤ 100000000000 := by
  rw [Int.mul_comm pr d]
  rcases Int.le_total 0 d with h0 | h0
  · have := mulB (a := d) (b := pr) (A := 100000) (B := 1000000) (by omega) (by omega) (by omega) (by omega) (by omega)
    omega
  · have := mulB (a := -d) (b := pr) (A := 100000) (B := 1000000) (by omega) (by omega) (by omega) (by omega) (by omega)
    rw [Int.neg_mul] at this
    omega
/-- numbers stay small -/
theorem st_cvB {s : Sto} {t : Nat} {f : Cxt} {pr : Int} (hs : stOk s) (hf : stB s t f) (ht : t < 24) (hp : -1000000 ≤ pr ∧ pr ≤ 1000000) : cvB f (lineC (-s.D) s.C pr) := by
  unfold stOk at hs
  obtain ⟨f1, f2, f3, f4, f5⟩ := hf
  have hh := lineC_hi (lo := -s.D) (hi := s.C) (sl := pr) (by omega)
  have hn := lineC_n (-s.D) s.C pr
  have hle := Cxt.le f1
  refine ⟨by omega, by show -1000000 ≤ f.lo + -s.D; omega, by rw [hh]; omega, fun i j hi hj => ?_⟩
  have hj1 : -s.D ≤ j := hj.1
  have hj2 : j ≤ s.C := by have := hj.2; rw [hh] at this; exact this
  rw [lineC_V hj1 hj2]
  have := f5 i hi
  have := pr_bd (pr := pr) (d := j) hp (by omega)
  omega
theorem st_next {s : Sto} {t : Nat} {f g m : Cxt} {pr : Int} (hs : stOk s) (hf : stB s t f) (hp : -1000000 ≤ pr ∧ pr ≤ 1000000) (h1 : cvR f (lineC (-s.D) s.C pr) m) (h2 : rsR m 0 s.cap g) : stR s pr f g ∧ stB s (t + 1) g := by
  unfold stOk at hs
  obtain ⟨f1, f2, f3, f4, f5⟩ := hf
  obtain ⟨a1, a2, a3, a4, a5⟩ := h1
  obtain ⟨b1, b2, b3, b4, b5⟩ := h2
  have hh := lineC_hi (lo := -s.D) (hi := s.C) (sl := pr) (by omega)
  have hn := lineC_n (-s.D) s.C pr
  have hlo : (lineC (-s.D) s.C pr).lo = -s.D := rfl
  rw [hlo] at a2
  rw [hh] at a3
  have hR : stR s pr f g := by
    refine ⟨b1, by rw [b2, a2]; omega, by rw [b3, a3], by omega, fun k hk => ?_⟩
    obtain ⟨c1, c2⟩ := b5 k hk
    obtain ⟨d1, i, j, d2, d3, d4, d5⟩ := a5 k c1
    have hV : ∀ z, -s.D ≤ z → z ≤ s.C → (lineC (-s.D) s.C pr).V z = pr * z := fun z h1 h2 => lineC_V h1 h2
    have hin : ∀ z, -s.D ≤ z → z ≤ s.C → (lineC (-s.D) s.C pr).in z := fun z h1 h2 => ⟨h1, by rw [hh]; exact h2⟩
    rw [c2]
    refine ⟨fun b hb h3 h4 => ?_, i, d2, ?_, ?_, ?_⟩
    · have := d1 b (k - b) hb (hin _ h3 h4) (by omega)
      rwa [hV _ h3 h4] at this
    · have : -s.D ≤ j := d3.1
      omega
    · have := d3.2
      rw [hh] at this
      omega
    · have e1 : -s.D ≤ j := d3.1
      have e2 := d3.2
      rw [hh] at e2
      rw [d5, hV j e1 e2, show k - i = j by omega]
  refine ⟨hR, b1, by rw [b2]; omega, by rw [b3]; omega, by have := hR.2.2.2.1; omega, fun k hk => ?_⟩
  obtain ⟨-, b, c1, c2, c3, c4⟩ := hR.2.2.2.2 k hk
  rw [c4]
  have := f5 b c1
  have := pr_bd (pr := pr) (d := k - b) hp (by omega)
  omega
/-- no period leaves no level -/
theorem st_some {s : Sto} {t : Nat} {f m : Cxt} {pr : Int} (hs : stOk s) (hf : stB s t f) (h1 : cvR f (lineC (-s.D) s.C pr) m) : max m.lo 0 ≤ min m.hi s.cap := by
  unfold stOk at hs
  obtain ⟨f1, f2, f3, f4, f5⟩ := hf
  have hh := lineC_hi (lo := -s.D) (hi := s.C) (sl := pr) (by omega)
  have h2 := h1.2.1
  have h3 := h1.2.2.1
  rw [hh] at h3
  have hlo : (lineC (-s.D) s.C pr).lo = -s.D := rfl
  rw [hlo] at h2
  have := Cxt.le f1
  omega
end Go.Proofs.Ytkkkldhilofgmaa
