/-
  Ramps: the reference's rows of costs, walked.
-/
import Derived.Test.YtkkkldhilofgmaaStoP
import Derived.Test.YtkkkldhilofgmaaStoW
namespace Go.Proofs.Ytkkkldhilofgmaa
open Go.RowKit

/-- g is the sum of f and f' -/
def asR (f f' g : Cxt) : Prop := g.ok ∧ g.lo = max f.lo f'.lo ∧ g.hi = min f.hi f'.hi ∧ ∀ k, g.in k → g.V k = f.V k + f'.V k
/-- numbers are small enough for it -/
def asB (f f' : Cxt) : Prop := max f.lo f'.lo ≤ min f.hi f'.hi ∧ min f.hi f'.hi - max f.lo f'.lo ≤ 64 ∧ ∀ k, f.in k → f'.in k → -4000000 ≤ f.V k + f'.V k ∧ f.V k + f'.V k ≤ 4000000
/-- slopes rise -/
theorem Cxt.conv {f : Cxt} (h : f.ok) {x y : Int} (h1 : f.lo ≤ x) (h2 : x ≤ y) (h3 : y < f.hi) : f.V (x + 1) - f.V x ≤ f.V (y + 1) - f.V y := by
  have a := Cxt.slope h (f.V (x + 1) - f.V x) h1 (by omega)
  have b := Cxt.slope h (f.V (x + 1) - f.V x) (k := y) (by omega) h3
  by_cases e : x < f.at (f.V (x + 1) - f.V x)
  · exact absurd (a.1 e) (Int.lt_irrefl _)
  · exact b.2 (by omega)
theorem addG (f f' : Cxt) (h1 : f.ok) (h2 : f'.ok) (hB : asB f f') : Fn Try.prog 17 [f.av, f'.av] (fnG fun e g => e = 0 ∧ asR f f' g) :=
  (cxAdd f.lo f.v f.n f.p f.q f'.lo f'.v f'.n f'.p f'.q (by have := h1.1; unfold maxLen; omega) (by have := h2.1; unfold maxLen; omega)).mono fun obs r ⟨g1, g2⟩ => by
    have hE : cx2E f.lo f.v f.n f.p f.q f'.lo f'.v f'.n f'.p f'.q = 0 := by
      unfold cx2E
      rw [if_neg (fun h => h (ok_cxE h1))]
      exact ok_cxE h2
    obtain ⟨b1, b2, b3⟩ := hB
    have e1 : f.hi = f.lo + S f.p f.n := rfl
    have e2 : f'.hi = f'.lo + S f'.p f'.n := rfl
    rcases g2 with ⟨g2, -⟩ | ⟨-, g2, -⟩ | ⟨-, -, K, V, P, Q, ⟨s1, s2, s3, s4⟩, hm⟩
    · exact absurd hE g2
    · exfalso; omega
    obtain ⟨M, hM⟩ : ∃ M, M = max f.lo f'.lo := ⟨_, rfl⟩
    rw [← hM] at b1 b2 s3 s4 hm
    have hT : M + S P K = min f.hi f'.hi := by omega
    have hp1 : ∀ i, i < K → 1 ≤ P i := fun i hi => (s1 i hi).1
    have hKS := S_le (p := P) (a := 1) (b := 2000000) (k := K) s1
    have hin : ∀ m : Nat, (m : Int) ≤ S P K → f.in (M + m) ∧ f'.in (M + m) := fun m hm => ⟨⟨by omega, by omega⟩, ⟨by omega, by omega⟩⟩
    have hW : ∀ m : Nat, (m : Int) ≤ S P K → cW V K P Q m = f.V (M + m) + f'.V (M + m) := fun m hm => by
      rw [s4 m (by omega), Cxt.V_at (f := f) (k := M + m) (m := (M - f.lo).toNat + m) (by omega), Cxt.V_at (f := f') (k := M + m) (m := (M - f'.lo).toNat + m) (by omega)]
    have hq : ∀ i, i < K → ∃ m : Nat, (m : Int) = S P i ∧ (m : Int) + 1 ≤ S P K ∧ Q i = (f.V (M + m + 1) - f.V (M + m)) + (f'.V (M + m + 1) - f'.V (M + m)) := fun i hi => by
      have x1 := S_mono (p := P) (i := 0) (j := i) (fun k hk => by have := hp1 k (by omega); omega) (Nat.zero_le _)
      have x2 := S_mono (p := P) (i := i + 1) (j := K) (fun k hk => by have := hp1 k hk; omega) hi
      have x3 : S P (i + 1) = S P i + P i := rfl
      have x4 : S P 0 = 0 := rfl
      have x5 := hp1 i hi
      obtain ⟨m, hm⟩ : ∃ m : Nat, (m : Int) = S P i := ⟨(S P i).toNat, by omega⟩
      refine ⟨m, hm, by omega, ?_⟩
      have x6 := ct_step (q := Q) hp1 hi (m := (m : Int)) (by omega) (by omega)
      have x7 := hW m (by omega)
      have x8 := hW (m + 1) (by omega)
      have x9 : M + ((m + 1 : Nat) : Int) = M + m + 1 := by omega
      have x10 : ((m + 1 : Nat) : Int) = (m : Int) + 1 := by omega
      rw [x9] at x8
      unfold cW at x7 x8
      rw [x10] at x8
      omega
    have hpq : ∀ i, i < K → 1 ≤ P i ∧ -10000000 ≤ Q i ∧ Q i ≤ 10000000 := fun i hi => by
      obtain ⟨m, m1, m2, m3⟩ := hq i hi
      have y1 := hin m (by omega)
      have y2 := hin (m + 1) (by omega)
      rw [show M + ((m + 1 : Nat) : Int) = M + m + 1 by omega] at y2
      have y3 := b3 _ y1.1 y1.2
      have y4 := b3 _ y2.1 y2.2
      exact ⟨hp1 i hi, by omega, by omega⟩
    have hok := j_ok (lo := M) (v := V) (k := K) (p := P) (q := Q) hpq (fun a b hab hb => by
      obtain ⟨m, m1, m2, m3⟩ := hq a (by omega)
      obtain ⟨n, n1, n2, n3⟩ := hq b hb
      have y0 := S_mono (p := P) (i := a) (j := b) (fun k hk => by have := hp1 k (by omega); omega) hab
      have y1 := Cxt.conv h1 (x := M + m) (y := M + n) (by omega) (by omega) (by omega)
      have y2 := Cxt.conv h2 (x := M + m) (y := M + n) (by omega) (by omega) (by omega)
      omega) (by omega) (by have := h1.2.1; omega) (by have := (h1.2.2.2.2.2.2.2 f.n (Nat.le_refl _)).1; omega) (fun m hm => by
      have y1 := hW m hm
      have y2 := hin m hm
      have y3 := b3 _ y2.1 y2.2
      unfold cW at y1
      rw [y1]
      omega)
    obtain ⟨-, ⟨h3, rfl⟩ | ⟨h3, rfl⟩⟩ := hm
    rotate_left
    · exact absurd (ok_cxE hok) h3
    have hJ := jP_sum P Q K
    refine ⟨g1, 0, ⟨M, V, _, _, _⟩, rfl, rfl, hok, hM, ?_, fun k hk => ?_⟩
    · show M + S (jP P Q K) (jN Q K) = _
      omega
    · have k1 : M ≤ k := hk.1
      have k2 : k ≤ M + S (jP P Q K) (jN Q K) := hk.2
      rw [hJ] at k2
      obtain ⟨T, hTk⟩ : ∃ T : Nat, k = M + T := ⟨(k - M).toNat, by omega⟩
      have y1 := hW T (by omega)
      rw [hTk, ← y1, Cxt.V_at (m := T) rfl]
      unfold cW
      rw [j_val (T : Int) (fun i hi => by have := hp1 i hi; omega)]

structure Ram where
  now : Int
  up : Int
  dn : Int
  m : Nat
  lo : Nat → Int
  hi : Nat → Int
  pl : Nat → Int
def rmOk (s : Ram) : Prop := (∀ k, k < s.m → 0 ≤ s.lo k ∧ s.lo k ≤ s.hi k ∧ s.hi k ≤ 100000) ∧ (0 ≤ s.now ∧ s.now ≤ 100000) ∧ (0 ≤ s.up ∧ s.up ≤ 100000) ∧ 0 ≤ s.dn ∧ s.dn ≤ 100000
def rmPl (s : Ram) : Prop := ∀ k, k < s.m → 0 ≤ s.pl k ∧ s.pl k ≤ 100000
/-- all powers are small -/
def rmS (s : Ram) : Prop := s.now ≤ 40 ∧ ∀ k, k < s.m → s.hi k ≤ 40 ∧ s.pl k ≤ 40
/-- the way from a power -/
def dis (k p : Int) : Int := max (k - p) (p - k)
def awC (p : Int) : Cxt := ⟨0, p, if 0 < p ∧ p < 100000 then 2 else 1, fun k => if k = 0 ∧ 0 < p then p else 100000 - p, fun k => if k = 0 ∧ 0 < p then -1 else 1⟩
theorem awC_hi {p : Int} (h0 : 0 ≤ p) (h1 : p ≤ 100000) : (awC p).hi = 100000 := by
  show 0 + S (fun k => if k = 0 ∧ 0 < p then p else 100000 - p) (if 0 < p ∧ p < 100000 then 2 else 1) = 100000
  by_cases e : 0 < p ∧ p < 100000
  · rw [if_pos e]
    show 0 + (0 + (if 0 = 0 ∧ 0 < p then p else 100000 - p) + (if 1 = 0 ∧ 0 < p then p else 100000 - p)) = 100000
    rw [if_pos ⟨rfl, e.1⟩, if_neg (by omega)]
    omega
  · rw [if_neg e]
    show 0 + (0 + (if 0 = 0 ∧ 0 < p then p else 100000 - p)) = 100000
    by_cases e2 : 0 < p
    · rw [if_pos ⟨rfl, e2⟩]; omega
    · rw [if_neg (by omega)]; omega
theorem awC_V {p k : Int} (h0 : 0 ≤ p) (h1 : p ≤ 100000) (k0 : 0 ≤ k) (k1 : k ≤ 100000) : (awC p).V k = dis k p := by
  obtain ⟨m, rfl⟩ : ∃ m : Nat, k = (m : Int) := ⟨k.toNat, by omega⟩
  rw [Cxt.V_at (f := awC p) (m := m) (by show (m : Int) = 0 + m; omega)]
  show p + S (ct (fun k => if k = 0 ∧ 0 < p then p else 100000 - p) (fun k => if k = 0 ∧ 0 < p then -1 else 1) m) (if 0 < p ∧ p < 100000 then 2 else 1) = dis m p
  unfold dis
  by_cases e : 0 < p ∧ p < 100000
  · rw [if_pos e]
    show p + (0 + min (max ((m : Int) - 0) 0) (if 0 = 0 ∧ 0 < p then p else 100000 - p) * (if 0 = 0 ∧ 0 < p then -1 else 1) + min (max ((m : Int) - (0 + (if 0 = 0 ∧ 0 < p then p else 100000 - p))) 0) (if 1 = 0 ∧ 0 < p then p else 100000 - p) * (if 1 = 0 ∧ 0 < p then -1 else 1)) = _
    rw [if_pos ⟨rfl, e.1⟩, if_pos ⟨rfl, e.1⟩, if_neg (by omega), if_neg (by omega)]
    omega
  · rw [if_neg e]
    show p + (0 + min (max ((m : Int) - 0) 0) (if 0 = 0 ∧ 0 < p then p else 100000 - p) * (if 0 = 0 ∧ 0 < p then -1 else 1)) = _
    by_cases e2 : 0 < p
    · rw [if_pos ⟨rfl, e2⟩, if_pos ⟨rfl, e2⟩]; omega
    · rw [if_neg (by omega), if_neg (by omega)]; omega
theorem awC_ok {p : Int} (h0 : 0 ≤ p) (h1 : p ≤ 100000) : (awC p).ok := by
  show okCx 0 p (if 0 < p ∧ p < 100000 then 2 else 1) (fun k => if k = 0 ∧ 0 < p then p else 100000 - p) (fun k => if k = 0 ∧ 0 < p then -1 else 1)
  by_cases e : 0 < p ∧ p < 100000
  · rw [if_pos e]
    refine ⟨by omega, by omega, by omega, by omega, by omega, fun k hk => ?_, fun k hk => ?_, fun k hk => ?_⟩
    · match k, hk with
      | 0, _ => show 1 ≤ (if 0 = 0 ∧ 0 < p then p else 100000 - p) ∧ (if 0 = 0 ∧ 0 < p then p else 100000 - p) ≤ 2000000 ∧ -10000000 ≤ (if 0 = 0 ∧ 0 < p then (-1 : Int) else 1) ∧ (if 0 = 0 ∧ 0 < p then (-1 : Int) else 1) ≤ 10000000; rw [if_pos ⟨rfl, e.1⟩, if_pos ⟨rfl, e.1⟩]; omega
      | 1, _ => show 1 ≤ (if 1 = 0 ∧ 0 < p then p else 100000 - p) ∧ (if 1 = 0 ∧ 0 < p then p else 100000 - p) ≤ 2000000 ∧ -10000000 ≤ (if 1 = 0 ∧ 0 < p then (-1 : Int) else 1) ∧ (if 1 = 0 ∧ 0 < p then (-1 : Int) else 1) ≤ 10000000; rw [if_neg (by omega), if_neg (by omega)]; omega
    · match k, hk with
      | 0, _ => show (if 0 = 0 ∧ 0 < p then (-1 : Int) else 1) < (if 0 + 1 = 0 ∧ 0 < p then -1 else 1); rw [if_pos ⟨rfl, e.1⟩, if_neg (by omega)]; decide
    · match k, hk with
      | 0, _ => exact ⟨by show 0 + (0 : Int) ≤ 1000000; decide, by show -1000000000000000 ≤ p + 0 ∧ p + 0 ≤ 1000000000000000; omega⟩
      | 1, _ =>
        show 0 + (0 + (if 0 = 0 ∧ 0 < p then p else 100000 - p)) ≤ 1000000 ∧ -1000000000000000 ≤ p + (0 + (if 0 = 0 ∧ 0 < p then p else 100000 - p) * (if 0 = 0 ∧ 0 < p then -1 else 1)) ∧ p + (0 + (if 0 = 0 ∧ 0 < p then p else 100000 - p) * (if 0 = 0 ∧ 0 < p then -1 else 1)) ≤ 1000000000000000
        rw [if_pos ⟨rfl, e.1⟩, if_pos ⟨rfl, e.1⟩]; omega
      | 2, _ =>
        show 0 + (0 + (if 0 = 0 ∧ 0 < p then p else 100000 - p) + (if 1 = 0 ∧ 0 < p then p else 100000 - p)) ≤ 1000000 ∧ -1000000000000000 ≤ p + (0 + (if 0 = 0 ∧ 0 < p then p else 100000 - p) * (if 0 = 0 ∧ 0 < p then -1 else 1) + (if 1 = 0 ∧ 0 < p then p else 100000 - p) * (if 1 = 0 ∧ 0 < p then -1 else 1)) ∧ p + (0 + (if 0 = 0 ∧ 0 < p then p else 100000 - p) * (if 0 = 0 ∧ 0 < p then -1 else 1) + (if 1 = 0 ∧ 0 < p then p else 100000 - p) * (if 1 = 0 ∧ 0 < p then -1 else 1)) ≤ 1000000000000000
        have a1 : (if (0 : Nat) = 0 ∧ 0 < p then p else 100000 - p) = p := if_pos ⟨rfl, e.1⟩
        have a2 : (if (1 : Nat) = 0 ∧ 0 < p then p else 100000 - p) = 100000 - p := if_neg (by omega)
        have a3 : (if (0 : Nat) = 0 ∧ 0 < p then (-1 : Int) else 1) = -1 := if_pos ⟨rfl, e.1⟩
        have a4 : (if (1 : Nat) = 0 ∧ 0 < p then (-1 : Int) else 1) = 1 := if_neg (by omega)
        rw [a1, a2, a3, a4]; omega
  · rw [if_neg e]
    refine ⟨by omega, by omega, by omega, by omega, by omega, fun k hk => ?_, fun k hk => absurd hk (by omega), fun k hk => ?_⟩
    · obtain rfl : k = 0 := by omega
      show 1 ≤ (if 0 = 0 ∧ 0 < p then p else 100000 - p) ∧ (if 0 = 0 ∧ 0 < p then p else 100000 - p) ≤ 2000000 ∧ -10000000 ≤ (if 0 = 0 ∧ 0 < p then (-1 : Int) else 1) ∧ (if 0 = 0 ∧ 0 < p then (-1 : Int) else 1) ≤ 10000000
      by_cases e2 : 0 < p
      · rw [if_pos ⟨rfl, e2⟩, if_pos ⟨rfl, e2⟩]; omega
      · rw [if_neg (by omega), if_neg (by omega)]; omega
    · match k, hk with
      | 0, _ => exact ⟨by show 0 + (0 : Int) ≤ 1000000; decide, by show -1000000000000000 ≤ p + 0 ∧ p + 0 ≤ 1000000000000000; omega⟩
      | 1, _ =>
        show 0 + (0 + (if 0 = 0 ∧ 0 < p then p else 100000 - p)) ≤ 1000000 ∧ -1000000000000000 ≤ p + (0 + (if 0 = 0 ∧ 0 < p then p else 100000 - p) * (if 0 = 0 ∧ 0 < p then -1 else 1)) ∧ p + (0 + (if 0 = 0 ∧ 0 < p then p else 100000 - p) * (if 0 = 0 ∧ 0 < p then -1 else 1)) ≤ 1000000000000000
        by_cases e2 : 0 < p
        · rw [if_pos ⟨rfl, e2⟩, if_pos ⟨rfl, e2⟩]; omega
        · rw [if_neg (by omega), if_neg (by omega)]; omega

/-- the moves that are permitted -/
def movC (s : Ram) : Cxt := lineC (-s.dn) s.up 0
def nowC (s : Ram) : Cxt := ⟨s.now, 0, 0, fun _ => 0, fun _ => 0⟩
/-- the costs of the powers after a period -/
def rmR (s : Ram) (t : Nat) (f g : Cxt) : Prop := g.ok ∧ g.lo = max (f.lo - s.dn) (s.lo t) ∧ g.hi = min (f.hi + s.up) (s.hi t) ∧
  ∀ k, g.in k → (∀ b, f.in b → -s.dn ≤ k - b → k - b ≤ s.up → g.V k ≤ f.V b + dis k (s.pl t)) ∧ ∃ b, f.in b ∧ -s.dn ≤ k - b ∧ k - b ≤ s.up ∧ g.V k = f.V b + dis k (s.pl t)
/-- what is known of the costs after t periods -/
def rmB (t : Nat) (f : Cxt) : Prop := f.ok ∧ 0 ≤ f.lo ∧ f.hi ≤ 40 ∧ ∀ k, f.in k → 0 ≤ f.V k ∧ f.V k ≤ 40 * (t : Int)
theorem rmB_n {t : Nat} {f : Cxt} (h : rmB t f) : f.n ≤ 40 := by
  obtain ⟨f1, f2, f3, f4⟩ := h
  have e1 : f.hi = f.lo + S f.p f.n := rfl
  have h1 := S_le (p := f.p) (a := 1) (b := 2000000) (k := f.n) fun j hj => by have := f1.2.2.2.2.2.1 j hj; omega
  omega
theorem nowC_B {s : Ram} (h : rmOk s) (h2 : rmS s) : rmB 0 (nowC s) ∧ (nowC s).lo = s.now ∧ (nowC s).hi = s.now ∧ (nowC s).V s.now = 0 := by
  have hn := h.2.1
  have hs := h2.1
  have hV : ∀ k, (nowC s).in k → (nowC s).V k = 0 := fun k _ => by
    show (0 : Int) + S (ct (fun _ => 0) (fun _ => 0) ((k - s.now).toNat : Int)) 0 = 0
    rfl
  have hh : (nowC s).hi = s.now := by show s.now + 0 = s.now; omega
  refine ⟨⟨⟨by show 0 ≤ 64; decide, by show -1000000 ≤ s.now; omega, by show s.now ≤ 1000000; omega, by show (-1000000000000000 : Int) ≤ 0; decide, by show (0 : Int) ≤ 1000000000000000; decide, fun k hk => absurd hk (Nat.not_lt_zero k), fun k hk => absurd hk (Nat.not_lt_zero _), fun k hk => ?_⟩, by show 0 ≤ s.now; omega, by rw [hh]; omega, fun k hk => ?_⟩, rfl, hh, hV _ ⟨Int.le_refl _, by rw [hh]; exact Int.le_refl _⟩⟩
  · have hk : k ≤ 0 := hk
    obtain rfl : k = 0 := by omega
    exact ⟨by show s.now + 0 ≤ 1000000; omega, by show (-1000000000000000 : Int) ≤ 0 + 0 ∧ (0 : Int) + 0 ≤ 1000000000000000; decide⟩
  · rw [hV k hk]
    simp
theorem mov_V {s : Ram} {z : Int} (h1 : -s.dn ≤ z) (h2 : z ≤ s.up) : (movC s).V z = 0 := (lineC_V h1 h2).trans (Int.zero_mul z)
theorem mov_cvB {s : Ram} {t : Nat} {f : Cxt} (hs : rmOk s) (hf : rmB t f) (ht : t < 24) : cvB f (movC s) := by
  have hn := rmB_n hf
  obtain ⟨f1, f2, f3, f4⟩ := hf
  obtain ⟨-, -, u1, u2, u3⟩ := hs
  have hh := lineC_hi (lo := -s.dn) (hi := s.up) (sl := 0) (by omega)
  have hm := lineC_n (-s.dn) s.up 0
  have hle := Cxt.le f1
  refine ⟨by show f.n + (lineC (-s.dn) s.up 0).n ≤ 64; omega, by show -1000000 ≤ f.lo + -s.dn; omega, by show f.hi + (lineC (-s.dn) s.up 0).hi ≤ 1000000; rw [hh]; omega, fun i j hi hj => ?_⟩
  have hj1 : -s.dn ≤ j := hj.1
  have hj2 : j ≤ s.up := by have := hj.2; unfold movC at this; rw [hh] at this; exact this
  rw [mov_V hj1 hj2]
  have := f4 i hi
  omega
/-- a period: the moves, then the limit -/
theorem rm_cut {s : Ram} {t : Nat} {f a g : Cxt} (hs : rmOk s) (hS : rmS s) (ht : t < s.m) (hf : rmB t f) (h1 : cvR f (movC s) a) (h2 : rsR a (s.lo t) (s.hi t) g) :
    g.ok ∧ g.lo = max (f.lo - s.dn) (s.lo t) ∧ g.hi = min (f.hi + s.up) (s.hi t) ∧ 0 ≤ g.lo ∧ g.hi ≤ 40 ∧ ∀ k, g.in k → (0 ≤ g.V k ∧ g.V k ≤ 40 * (t : Int)) ∧ (∀ b, f.in b → -s.dn ≤ k - b → k - b ≤ s.up → g.V k ≤ f.V b) ∧ ∃ b, f.in b ∧ -s.dn ≤ k - b ∧ k - b ≤ s.up ∧ g.V k = f.V b := by
  obtain ⟨f1, f2, f3, f4⟩ := hf
  obtain ⟨a1, a2, a3, a4, a5⟩ := h1
  obtain ⟨b1, b2, b3, b4, b5⟩ := h2
  have hlim := hs.1 t ht
  have hsm := hS.2 t ht
  obtain ⟨-, -, u1, u2, u3⟩ := hs
  have hh : (movC s).hi = s.up := lineC_hi (lo := -s.dn) (hi := s.up) (sl := 0) (by omega)
  have hl : (movC s).lo = -s.dn := rfl
  rw [hl] at a2
  rw [hh] at a3
  refine ⟨b1, by rw [b2, a2]; omega, by rw [b3, a3], by rw [b2]; omega, by rw [b3]; omega, fun k hk => ?_⟩
  obtain ⟨c1, c2⟩ := b5 k hk
  obtain ⟨d1, i, j, d2, d3, d4, d5⟩ := a5 k c1
  have hin : ∀ z, -s.dn ≤ z → z ≤ s.up → (movC s).in z := fun z h1 h2 => ⟨h1, by rw [hh]; exact h2⟩
  have e1 : -s.dn ≤ j := d3.1
  have e2 := d3.2
  rw [hh] at e2
  rw [mov_V e1 e2] at d5
  have e3 := f4 i d2
  rw [c2]
  refine ⟨by omega, fun b hb h3 h4 => ?_, i, d2, by omega, by omega, by omega⟩
  have := d1 b (k - b) hb (hin _ h3 h4) (by omega)
  rw [mov_V h3 h4] at this
  omega
theorem dis_b {k p : Int} (h : 0 ≤ k ∧ k ≤ 40) (h2 : 0 ≤ p ∧ p ≤ 40) : 0 ≤ dis k p ∧ dis k p ≤ 40 := by
  unfold dis
  omega
theorem rm_asB {s : Ram} {t : Nat} {f a g : Cxt} (hs : rmOk s) (hS : rmS s) (hp : rmPl s) (hm : s.m ≤ 24) (ht : t < s.m) (hf : rmB t f) (h1 : cvR f (movC s) a) (h2 : rsR a (s.lo t) (s.hi t) g) : asB g (awC (s.pl t)) := by
  obtain ⟨c1, c2, c3, c4, c5, c6⟩ := rm_cut hs hS ht hf h1 h2
  have hpl := hp t ht
  have hsm := hS.2 t ht
  have hh := awC_hi hpl.1 hpl.2
  have hl : (awC (s.pl t)).lo = 0 := rfl
  have hle := Cxt.le c1
  refine ⟨by rw [hh, hl]; omega, by rw [hh, hl]; omega, fun k hk _ => ?_⟩
  have k1 := hk.1
  have k2 := hk.2
  rw [awC_V hpl.1 hpl.2 (by omega) (by omega)]
  have := dis_b (k := k) (p := s.pl t) (by omega) (by omega)
  have := (c6 k hk).1
  omega
theorem rm_next {s : Ram} {t : Nat} {f a g h : Cxt} (hs : rmOk s) (hS : rmS s) (hp : rmPl s) (ht : t < s.m) (hf : rmB t f) (h1 : cvR f (movC s) a) (h2 : rsR a (s.lo t) (s.hi t) g) (h3 : asR g (awC (s.pl t)) h) : rmR s t f h ∧ rmB (t + 1) h := by
  obtain ⟨c1, c2, c3, c4, c5, c6⟩ := rm_cut hs hS ht hf h1 h2
  obtain ⟨d1, d2, d3, d4⟩ := h3
  have hpl := hp t ht
  have hsm := hS.2 t ht
  have hh := awC_hi hpl.1 hpl.2
  have hl : (awC (s.pl t)).lo = 0 := rfl
  rw [hl] at d2
  rw [hh] at d3
  have hin : ∀ k, h.in k → g.in k := fun k hk => ⟨by have := hk.1; omega, by have := hk.2; omega⟩
  have hV : ∀ k, h.in k → h.V k = g.V k + dis k (s.pl t) := fun k hk => by
    have k1 := (hin k hk).1
    have k2 := (hin k hk).2
    rw [d4 k hk, awC_V hpl.1 hpl.2 (by omega) (by omega)]
  refine ⟨⟨d1, by omega, by omega, fun k hk => ?_⟩, d1, by omega, by omega, fun k hk => ?_⟩
  · obtain ⟨-, e2, b, e3, e4, e5, e6⟩ := c6 k (hin k hk)
    rw [hV k hk]
    exact ⟨fun b hb h4 h5 => by have := e2 b hb h4 h5; omega, b, e3, e4, e5, by omega⟩
  · have k1 := (hin k hk).1
    have k2 := (hin k hk).2
    have e1 := (c6 k (hin k hk)).1
    have := dis_b (k := k) (p := s.pl t) (by omega) (by omega)
    rw [hV k hk]
    omega
end Go.Proofs.Ytkkkldhilofgmaa

namespace Go.Proofs.Ytkkkldhilofgmaa
open Go.RowKit

theorem convT (f f' : Cxt) (hn : f.n ≤ 64) (hn' : f'.n ≤ 64) : Fn Try.prog 18 [f.av, f'.av] (fnG fun e g => g.n ≤ 64 ∧ (f.ok → f'.ok → cvB f f' → e = 0 ∧ cvR f f' g)) := by
  by_cases h : f.ok ∧ f'.ok ∧ cvB f f'
  · exact (convG f f' h.1 h.2.1 h.2.2).mono fun obs r ⟨g1, e, g, g2, g3, g4⟩ => ⟨g1, e, g, g2, g4.1.1, fun _ _ _ => ⟨g3, g4⟩⟩
  · refine (cxConvolve f.lo f.v f.n f.p f.q f'.lo f'.v f'.n f'.p f'.q (by unfold maxLen; omega) (by unfold maxLen; omega)).res fun obs r ⟨g1, g2⟩ => ?_
    rcases g2 with ⟨-, rfl⟩ | ⟨-, π, -, -, hm⟩
    · exact ⟨_, ⟨g1, _, nulC, rfl, Nat.zero_le _, fun a b c => absurd ⟨a, b, c⟩ h⟩, csTup (Le.cons csNul (Le.cons (Le1.refl _) Le.nil))⟩
    · rcases hm with ⟨h3, rfl⟩ | ⟨h3, rfl⟩
      · exact ⟨_, ⟨g1, 0, ⟨_, _, _, _, _⟩, rfl, (cxE_zero h3).1, fun a b c => absurd ⟨a, b, c⟩ h⟩, Le1.refl _⟩
      · exact ⟨_, ⟨g1, 2, nulC, rfl, Nat.zero_le _, fun a b c => absurd ⟨a, b, c⟩ h⟩, csTup (Le.cons csNul (Le.cons (Le1.refl _) Le.nil))⟩
theorem addT (f f' : Cxt) (hn : f.n ≤ 64) (hn' : f'.n ≤ 64) : Fn Try.prog 17 [f.av, f'.av] (fnG fun e g => g.n ≤ 64 ∧ (f.ok → f'.ok → asB f f' → e = 0 ∧ asR f f' g)) := by
  by_cases h : f.ok ∧ f'.ok ∧ asB f f'
  · exact (addG f f' h.1 h.2.1 h.2.2).mono fun obs r ⟨g1, e, g, g2, g3, g4⟩ => ⟨g1, e, g, g2, g4.1.1, fun _ _ _ => ⟨g3, g4⟩⟩
  · refine (cxAdd f.lo f.v f.n f.p f.q f'.lo f'.v f'.n f'.p f'.q (by unfold maxLen; omega) (by unfold maxLen; omega)).res fun obs r ⟨g1, g2⟩ => ?_
    rcases g2 with ⟨-, rfl⟩ | ⟨-, -, rfl⟩ | ⟨-, -, K, V, P, Q, -, -, hm⟩
    · exact ⟨_, ⟨g1, _, nulC, rfl, Nat.zero_le _, fun a b c => absurd ⟨a, b, c⟩ h⟩, csTup (Le.cons csNul (Le.cons (Le1.refl _) Le.nil))⟩
    · exact ⟨_, ⟨g1, 8, nulC, rfl, Nat.zero_le _, fun a b c => absurd ⟨a, b, c⟩ h⟩, csTup (Le.cons csNul (Le.cons (Le1.refl _) Le.nil))⟩
    · rcases hm with ⟨h3, rfl⟩ | ⟨h3, rfl⟩
      · exact ⟨_, ⟨g1, 0, ⟨_, _, _, _, _⟩, rfl, (cxE_zero h3).1, fun a b c => absurd ⟨a, b, c⟩ h⟩, Le1.refl _⟩
      · exact ⟨_, ⟨g1, 2, nulC, rfl, Nat.zero_le _, fun a b c => absurd ⟨a, b, c⟩ h⟩, csTup (Le.cons csNul (Le.cons (Le1.refl _) Le.nil))⟩
theorem restT (f : Cxt) (low high : Int) (hn : f.n ≤ 64) : Fn Try.prog 74 [f.av, intV low, intV high] (fnG fun e g => g.n ≤ 64 ∧ (f.ok → (max f.lo low > min f.hi high ∧ e = 8 ∧ g.n = 0) ∨ (max f.lo low ≤ min f.hi high ∧ e = 0 ∧ rsR f low high g))) := by
  by_cases h : f.ok
  · exact (restG f low high h).mono fun obs r ⟨g1, e, g, g2, g3⟩ => ⟨g1, e, g, g2, by
      rcases g3 with ⟨-, -, g3⟩ | ⟨-, -, g3⟩
      · omega
      · exact g3.1.1, fun _ => g3⟩
  · refine (cxRestrict f.lo f.v f.n f.p f.q low high (by unfold maxLen; omega)).res fun obs r ⟨g1, g2⟩ => ?_
    rcases g2 with ⟨-, rfl⟩ | ⟨h0, -⟩ | ⟨h0, -⟩
    · exact ⟨_, ⟨g1, _, nulC, rfl, Nat.zero_le _, fun a => absurd a h⟩, csTup (Le.cons csNul (Le.cons (Le1.refl _) Le.nil))⟩
    · exact absurd (cxE_zero h0) h
    · exact absurd (cxE_zero h0) h
theorem rmOut (n h : Int) : Fn1 Try.prog 79 [intV n, intV h] (boolV (decide (n < 0) || decide (n > h))) := by
  refine fn_of_wpx (O := lex) tab_ok (Γ := fun _ => none) (fun _ _ h => by cases h) mixed Try.func79 (by kernel_rfl) rfl rfl rfl (by simp [Try.ntmps79]) (by kernel_rfl) ?_
  conv => whnf
  repeat' (first
    | (refine NilG.mk fun bn hbn hbx => ?_; conv => whnf)
    | (refine Both.mk ?_ ?_ <;> conv => whnf)
    | exact trivial
    | (refine Br.mk (fun hb => ?_) (fun hb => ?_) <;> (first | (exfalso; revert hb; decide) | ((try simp only [BL] at hb) <;> (try simp only [DL] at hb) <;> conv => whnf)))
    | (refine And.intro ?_ ?_; (focus (first | exact id | exact rfl | exact trivial | (intro hg; first | exact hg | exact rfl | (simp; done) | (simp at hg ⊢; assumption)) | omega | decide | exact is2_c _ _ _ | exact is1_c _ _ | exact isS_c _ _ | exact isB_c _ _ | exact Nat.le_refl _ | assumption | exact mulLe (by decide) (by omega) | exact mulLe2 (by decide) (by omega) (by omega) | (intros; simp only [BL] at *; omega) | (intros; (try simp only [BL] at *); (try simp only [DL] at *); omega) | (intros; simp only [BL] at *; rw [wr_id (by omega) (by omega)]; omega) | (intro h1 h2; exact Bool.and_eq_true_iff.2 ⟨h1, h2⟩) | (intros; simp_all; done))); conv => whnf)
    | (refine Or.inr (And.intro rfl ?_); first | (refine congrArg intV ?_) | (refine congrArg boolV ?_) | (refine tupII ?_ ?_) | (refine tupIII ?_ ?_ ?_) | (refine tupU ?_ ?_ ?_ ?_ ?_) | exact rfl))
  · rfl
theorem rmAway0 (p : Int) (h0 : 0 ≤ p) (h1 : p ≤ 100000) : Fn Try.prog 80 [intV p] (fun obs r => obs = [] ∧ ∃ n f, r = .agg [intV 0, intV p, .c (.sl 2 n f)] ∧ n = (if 0 < p ∧ p < 100000 then 2 else 1) ∧ Sh n 2 f (c2 (awC p).p (awC p).q)) := by
  refine fn_of_wpx (O := lex) tab_ok (Γ := fun _ => none) (fun _ _ h => by cases h) mixed Try.func80 (by kernel_rfl) rfl rfl rfl (by simp [Try.ntmps80]) (by kernel_rfl) ?_
  have w1 : IntKind.i64.wrap (100000 - p) = 100000 - p := wr_id (by omega) (by omega)
  have n1 : ¬ ((1 : Nat) = 0 ∧ 0 < p) := by omega
  have q1 : (awC p).p 1 = 100000 - p := by
    show (if (1 : Nat) = 0 ∧ 0 < p then p else 100000 - p) = 100000 - p
    exact if_neg n1
  have q2 : (awC p).q 1 = 1 := by
    show (if (1 : Nat) = 0 ∧ 0 < p then (-1 : Int) else 1) = 1
    exact if_neg n1
  have q3 : ¬ 0 < p → (awC p).p 0 = 100000 - p := fun h => by
    show (if (0 : Nat) = 0 ∧ 0 < p then p else 100000 - p) = 100000 - p
    exact if_neg (fun h2 => h h2.2)
  have q4 : ¬ 0 < p → (awC p).q 0 = 1 := fun h => by
    show (if (0 : Nat) = 0 ∧ 0 < p then (-1 : Int) else 1) = 1
    exact if_neg (fun h2 => h h2.2)
  conv => whnf
  repeat' (first
    | (refine NilG.mk fun bn hbn hbx => ?_; conv => whnf)
    | (refine Both.mk ?_ ?_ <;> conv => whnf)
    | exact trivial
    | (refine Br.mk (fun hb => ?_) (fun hb => ?_) <;> (first | (exfalso; revert hb; decide) | ((try simp only [BL] at hb) <;> (try simp only [DL] at hb) <;> (first | (exfalso; omega) | (conv => whnf)))))
    | (refine And.intro ?_ ?_; (focus (first | exact id | exact rfl | exact trivial | (intro hg; first | exact hg | exact rfl | (simp; done) | (simp at hg ⊢; assumption)) | omega | decide | exact is2_c _ _ _ | exact is1_c _ _ | exact isS_c _ _ | exact isB_c _ _ | exact Nat.le_refl _ | assumption | exact mulLe (by decide) (by omega) | exact mulLe2 (by decide) (by omega) (by omega) | (intros; simp only [BL] at *; omega) | (intros; (try simp only [BL] at *); (try simp only [DL] at *); omega) | (intros; simp only [BL] at *; rw [wr_id (by omega) (by omega)]; omega) | (intro h1 h2; exact Bool.and_eq_true_iff.2 ⟨h1, h2⟩) | (intros; simp_all; done))); conv => whnf)
    | (refine Or.inr (And.intro rfl ?_); first | (refine congrArg intV ?_) | (refine congrArg boolV ?_) | (refine tupII ?_ ?_) | (refine tupIII ?_ ?_ ?_) | (refine tupU ?_ ?_ ?_ ?_ ?_) | exact rfl))
  · rename_i hp0
    refine .inr ⟨rfl, 2, _, rfl, (if_pos (by omega)).symm, fun k hk j hj => ?_⟩
    match k, j, hk, hj with
    | 0, 0, _, _ => exact congrArg iL (if_pos ⟨rfl, hp0⟩).symm
    | 0, 1, _, _ => exact congrArg iL (if_pos ⟨rfl, hp0⟩).symm
    | 1, 0, _, _ => exact congrArg iL (w1.trans q1.symm)
    | 1, 1, _, _ => exact congrArg iL q2.symm
  · rename_i hp0
    refine .inr ⟨rfl, 1, _, rfl, (if_neg (by omega)).symm, fun k hk j hj => ?_⟩
    match k, j, hk, hj with
    | 0, 0, _, _ => exact congrArg iL (if_pos ⟨rfl, hp0⟩).symm
    | 0, 1, _, _ => exact congrArg iL (if_pos ⟨rfl, hp0⟩).symm
  · rename_i hp0
    refine .inr ⟨rfl, 1, _, rfl, (if_neg (by omega)).symm, fun k hk j hj => ?_⟩
    match k, j, hk, hj with
    | 0, 0, _, _ =>
      exact congrArg iL (w1.trans (q3 hp0).symm)
    | 0, 1, _, _ =>
      exact congrArg iL (q4 hp0).symm
theorem rmAway (p : Int) (h0 : 0 ≤ p) (h1 : p ≤ 100000) : Fn1 Try.prog 80 [intV p] (awC p).av :=
  (rmAway0 p h0 h1).res fun obs r ⟨g1, n, f, g2, g3, g4⟩ => ⟨_, ⟨g1, rfl⟩, by
    subst g3 g2
    exact Le1.agg (Le.cons (Le1.refl _) (Le.cons (Le1.refl _) (Le.cons (Le1.sl g4) Le.nil)))⟩
def badL (l h : Int) : Bool := oB l h || decide (h > 100000)
theorem rmLF (l h : Int) : Fn1 Try.prog 82 [.agg [intV l, intV h]] (boolV (badL l h)) := by
  refine fn_of_wpx (O := lex) tab_ok (Γ := fun _ => none) (fun _ _ h => by cases h) mixed Try.func82 (by kernel_rfl) rfl rfl rfl (by simp [Try.ntmps82]) (by kernel_rfl) ?_
  conv => whnf
  repeat' (first
    | (refine NilG.mk fun bn hbn hbx => ?_; conv => whnf)
    | (refine Both.mk ?_ ?_ <;> conv => whnf)
    | exact trivial
    | (refine Br.mk (fun hb => ?_) (fun hb => ?_) <;> (first | (exfalso; revert hb; decide) | ((try simp only [BL] at hb) <;> (try simp only [DL] at hb) <;> conv => whnf)))
    | (refine And.intro ?_ ?_; (focus (first | exact id | exact rfl | exact trivial | (intro hg; first | exact hg | exact rfl | (simp; done) | (simp at hg ⊢; assumption)) | omega | decide | exact is2_c _ _ _ | exact is1_c _ _ | exact isS_c _ _ | exact isB_c _ _ | exact Nat.le_refl _ | assumption | exact mulLe (by decide) (by omega) | exact mulLe2 (by decide) (by omega) (by omega) | (intros; simp only [BL] at *; omega) | (intros; (try simp only [BL] at *); (try simp only [DL] at *); omega) | (intros; simp only [BL] at *; rw [wr_id (by omega) (by omega)]; omega) | (intro h1 h2; exact Bool.and_eq_true_iff.2 ⟨h1, h2⟩) | (intros; simp_all; done))); conv => whnf)
    | (refine Or.inr (And.intro rfl ?_); first | (refine congrArg intV ?_) | (refine congrArg boolV ?_) | (refine tupII ?_ ?_) | (refine tupIII ?_ ?_ ?_) | (refine tupU ?_ ?_ ?_ ?_ ?_) | exact rfl))
  refine CallG.mk (Fn.mono (rmOut _ _) ?_)
  rintro obs r ⟨rfl, rfl⟩
  conv => whnf
  repeat' (first
    | (refine NilG.mk fun bn hbn hbx => ?_; conv => whnf)
    | (refine Both.mk ?_ ?_ <;> conv => whnf)
    | exact trivial
    | (refine Br.mk (fun hb => ?_) (fun hb => ?_) <;> (first | (exfalso; revert hb; decide) | ((try simp only [BL] at hb) <;> (try simp only [DL] at hb) <;> conv => whnf)))
    | (refine And.intro ?_ ?_; (focus (first | exact id | exact rfl | exact trivial | (intro hg; first | exact hg | exact rfl | (simp; done) | (simp at hg ⊢; assumption)) | omega | decide | exact is2_c _ _ _ | exact is1_c _ _ | exact isS_c _ _ | exact isB_c _ _ | exact Nat.le_refl _ | assumption | exact mulLe (by decide) (by omega) | exact mulLe2 (by decide) (by omega) (by omega) | (intros; simp only [BL] at *; omega) | (intros; (try simp only [BL] at *); (try simp only [DL] at *); omega) | (intros; simp only [BL] at *; rw [wr_id (by omega) (by omega)]; omega) | (intro h1 h2; exact Bool.and_eq_true_iff.2 ⟨h1, h2⟩) | (intros; simp_all; done))); conv => whnf)
    | (refine Or.inr (And.intro rfl ?_); first | (refine congrArg intV ?_) | (refine congrArg boolV ?_) | (refine tupII ?_ ?_) | (refine tupIII ?_ ?_ ?_) | (refine tupU ?_ ?_ ?_ ?_ ?_) | exact rfl))
  · rfl
theorem rmLI (m : Nat) (lo hi : Nat → Int) (hm : m ≤ maxLen) : Fn1 Try.prog 110 [.c (.sl 2 m (c2 lo hi)), .fn 82 []] (intV (fidx (fun k => badL (lo k) (hi k)) m)) := by
  refine fn_of_wpx (O := lex) tab_ok (Γ := fun _ => none) (fun _ _ h => by cases h) mixed Try.func110 (by kernel_rfl) rfl rfl rfl (by simp [Try.ntmps110]) (by kernel_rfl) ?_
  have hn' : m ≤ 9223372036854775807 := hm
  conv => whnf
  repeat' (first
    | (refine NilG.mk fun bn hbn hbx => ?_; conv => whnf)
    | (refine Both.mk ?_ ?_ <;> conv => whnf)
    | exact trivial
    | (refine Br.mk (fun hb => ?_) (fun hb => ?_) <;> (first | (exfalso; revert hb; decide) | ((try simp only [BL] at hb) <;> (try simp only [DL] at hb) <;> conv => whnf)))
    | (refine And.intro ?_ ?_; (focus (first | exact id | exact rfl | exact trivial | (intro hg; first | exact hg | exact rfl | (simp; done) | (simp at hg ⊢; assumption)) | omega | decide | exact is2_c _ _ _ | exact is1_c _ _ | exact isS_c _ _ | exact isB_c _ _ | exact Nat.le_refl _ | assumption | exact mulLe (by decide) (by omega) | exact mulLe2 (by decide) (by omega) (by omega) | (intros; simp only [BL] at *; omega) | (intros; (try simp only [BL] at *); (try simp only [DL] at *); omega) | (intros; simp only [BL] at *; rw [wr_id (by omega) (by omega)]; omega) | (intro h1 h2; exact Bool.and_eq_true_iff.2 ⟨h1, h2⟩) | (intros; simp_all; done))); conv => whnf)
    | (refine Or.inr (And.intro rfl ?_); first | (refine congrArg intV ?_) | (refine congrArg boolV ?_) | (refine tupII ?_ ?_) | (refine tupIII ?_ ?_ ?_) | (refine tupU ?_ ?_ ?_ ?_ ?_) | exact rfl))
  refine sem_loop tab_ok gamN1_ok mixed (by kernel_rfl) (O := lex) (fun i : Nat => ⟨[(8, intV i), (7, intV m), (0, .c (.sl 2 m (c2 lo hi))), (1, .fn 82 [])], []⟩) (fun i => i ≤ m ∧ ∀ k, k < i → badL (lo k) (hi k) = false) (fun i => m - i) ⟨0, [], ⟨Nat.zero_le _, fun k hk => absurd hk (Nat.not_lt_zero _)⟩, ?_⟩ fun i hi => ?_
  · refine Sub.of ?_ ?_ ?_
    repeat' (first | (refine And.intro ?_ ?_) | exact trivial | exact fun _ _ _ => hsc _ _ | (exact congrArg intV (by first | with_reducible rfl | with_reducible assumption)) | exact (rfl : AV.idsLt _ _ = true) | exact (rfl : _ = AV.ren _ (.own _)) | exact (rfl : _ = AV.ren _ (.fn _ _)) | exact (rfl : _ = AV.ren _ (.gh _)) | (exact congrArg intV (by assumption)) | (refine congrArg intV ((wr_id (by omega) (by omega)).trans (by omega))) | exact rfl | (simp only [Int.toNat_natCast, Int.toNat_zero, Nat.sub_zero, Nat.zero_add]; first | exact rfl | done) | exact all0 | exact fun h => Bool.noConfusion h | exact fun _ _ _ _ => rfl | omega)
  conv => whnf
  repeat' (first
    | (refine NilG.mk fun bn hbn hbx => ?_; conv => whnf)
    | (refine Both.mk ?_ ?_ <;> conv => whnf)
    | exact trivial
    | (refine Br.mk (fun hb => ?_) (fun hb => ?_) <;> (first | (exfalso; revert hb; decide) | ((try simp only [BL] at hb) <;> (try simp only [DL] at hb) <;> conv => whnf)))
    | (refine And.intro ?_ ?_; (focus (first | exact id | exact rfl | exact trivial | (intro hg; first | exact hg | exact rfl | (simp; done) | (simp at hg ⊢; assumption)) | omega | decide | exact is2_c _ _ _ | exact is1_c _ _ | exact isS_c _ _ | exact isB_c _ _ | exact Nat.le_refl _ | assumption | exact mulLe (by decide) (by omega) | exact mulLe2 (by decide) (by omega) (by omega) | (intros; simp only [BL] at *; omega) | (intros; (try simp only [BL] at *); (try simp only [DL] at *); omega) | (intros; simp only [BL] at *; rw [wr_id (by omega) (by omega)]; omega) | (intro h1 h2; exact Bool.and_eq_true_iff.2 ⟨h1, h2⟩) | (intros; simp_all; done))); conv => whnf)
    | (refine Or.inr (And.intro rfl ?_); first | (refine congrArg intV ?_) | (refine congrArg boolV ?_) | (refine tupII ?_ ?_) | (refine tupIII ?_ ?_ ?_) | (refine tupU ?_ ?_ ?_ ?_ ?_) | exact rfl))
  · refine CallG.mk (Fn.mono (rmLF _ _) ?_)
    rintro obs r ⟨rfl, rfl⟩
    conv => whnf
    repeat' (first
      | (refine NilG.mk fun bn hbn hbx => ?_; conv => whnf)
      | (refine Both.mk ?_ ?_ <;> conv => whnf)
      | exact trivial
      | (refine Br.mk (fun hb => ?_) (fun hb => ?_) <;> (first | (exfalso; revert hb; decide) | ((try simp only [BL] at hb) <;> (try simp only [DL] at hb) <;> conv => whnf)))
      | (refine And.intro ?_ ?_; (focus (first | exact id | exact rfl | exact trivial | (intro hg; first | exact hg | exact rfl | (simp; done) | (simp at hg ⊢; assumption)) | omega | decide | exact is2_c _ _ _ | exact is1_c _ _ | exact isS_c _ _ | exact isB_c _ _ | exact Nat.le_refl _ | assumption | exact mulLe (by decide) (by omega) | exact mulLe2 (by decide) (by omega) (by omega) | (intros; simp only [BL] at *; omega) | (intros; (try simp only [BL] at *); (try simp only [DL] at *); omega) | (intros; simp only [BL] at *; rw [wr_id (by omega) (by omega)]; omega) | (intro h1 h2; exact Bool.and_eq_true_iff.2 ⟨h1, h2⟩) | (intros; simp_all; done))); conv => whnf)
      | (refine Or.inr (And.intro rfl ?_); first | (refine congrArg intV ?_) | (refine congrArg boolV ?_) | (refine tupII ?_ ?_) | (refine tupIII ?_ ?_ ?_) | (refine tupU ?_ ?_ ?_ ?_ ?_) | exact rfl))
    · refine (fidx_at hi.2 ?_ (by omega)).symm
      exact hb
    · refine ⟨i + 1, [], ⟨by omega, fun k hk => by
            rcases Nat.lt_succ_iff_lt_or_eq.1 hk with h | rfl
            · exact hi.2 k h
            · exact hb⟩, by omega, ?_⟩
      refine Sub.of ?_ ?_ ?_
      repeat' (first | (refine And.intro ?_ ?_) | exact trivial | exact fun _ _ _ => hsc _ _ | (exact congrArg intV (by first | with_reducible rfl | with_reducible assumption)) | exact (rfl : AV.idsLt _ _ = true) | exact (rfl : _ = AV.ren _ (.own _)) | exact (rfl : _ = AV.ren _ (.fn _ _)) | exact (rfl : _ = AV.ren _ (.gh _)) | (exact congrArg intV (by assumption)) | (refine congrArg intV ((wr_id (by omega) (by omega)).trans (by omega))) | exact rfl | (simp only [Int.toNat_natCast, Int.toNat_zero, Nat.sub_zero, Nat.zero_add]; first | exact rfl | done) | exact all0 | exact fun h => Bool.noConfusion h | exact fun _ _ _ _ => rfl | omega)
  · obtain rfl : i = m := by omega
    exact (fidx_none hi.2).symm
theorem rmLC (m : Nat) (lo hi : Nat → Int) (hm : m ≤ maxLen) : Fn1 Try.prog 81 [.c (.sl 2 m (c2 lo hi)), .fn 82 []] (boolV (decide (fidx (fun k => badL (lo k) (hi k)) m ≥ 0))) := by
  refine fn_of_wpx (O := lex) tab_ok (Γ := fun _ => none) (fun _ _ h => by cases h) mixed Try.func81 (by kernel_rfl) rfl rfl rfl (by simp [Try.ntmps81]) (by kernel_rfl) ?_
  conv => whnf
  repeat' (first
    | (refine NilG.mk fun bn hbn hbx => ?_; conv => whnf)
    | (refine Both.mk ?_ ?_ <;> conv => whnf)
    | exact trivial
    | (refine Br.mk (fun hb => ?_) (fun hb => ?_) <;> (first | (exfalso; revert hb; decide) | ((try simp only [BL] at hb) <;> (try simp only [DL] at hb) <;> conv => whnf)))
    | (refine And.intro ?_ ?_; (focus (first | exact id | exact rfl | exact trivial | (intro hg; first | exact hg | exact rfl | (simp; done) | (simp at hg ⊢; assumption)) | omega | decide | exact is2_c _ _ _ | exact is1_c _ _ | exact isS_c _ _ | exact isB_c _ _ | exact Nat.le_refl _ | assumption | exact mulLe (by decide) (by omega) | exact mulLe2 (by decide) (by omega) (by omega) | (intros; simp only [BL] at *; omega) | (intros; (try simp only [BL] at *); (try simp only [DL] at *); omega) | (intros; simp only [BL] at *; rw [wr_id (by omega) (by omega)]; omega) | (intro h1 h2; exact Bool.and_eq_true_iff.2 ⟨h1, h2⟩) | (intros; simp_all; done))); conv => whnf)
    | (refine Or.inr (And.intro rfl ?_); first | (refine congrArg intV ?_) | (refine congrArg boolV ?_) | (refine tupII ?_ ?_) | (refine tupIII ?_ ?_ ?_) | (refine tupU ?_ ?_ ?_ ?_ ?_) | exact rfl))
  refine CallG.mk (Fn.mono (rmLI m lo hi hm) ?_)
  rintro obs r ⟨rfl, rfl⟩
  conv => whnf
  repeat' (first
    | (refine NilG.mk fun bn hbn hbx => ?_; conv => whnf)
    | (refine Both.mk ?_ ?_ <;> conv => whnf)
    | exact trivial
    | (refine Br.mk (fun hb => ?_) (fun hb => ?_) <;> (first | (exfalso; revert hb; decide) | ((try simp only [BL] at hb) <;> (try simp only [DL] at hb) <;> conv => whnf)))
    | (refine And.intro ?_ ?_; (focus (first | exact id | exact rfl | exact trivial | (intro hg; first | exact hg | exact rfl | (simp; done) | (simp at hg ⊢; assumption)) | omega | decide | exact is2_c _ _ _ | exact is1_c _ _ | exact isS_c _ _ | exact isB_c _ _ | exact Nat.le_refl _ | assumption | exact mulLe (by decide) (by omega) | exact mulLe2 (by decide) (by omega) (by omega) | (intros; simp only [BL] at *; omega) | (intros; (try simp only [BL] at *); (try simp only [DL] at *); omega) | (intros; simp only [BL] at *; rw [wr_id (by omega) (by omega)]; omega) | (intro h1 h2; exact Bool.and_eq_true_iff.2 ⟨h1, h2⟩) | (intros; simp_all; done))); conv => whnf)
    | (refine Or.inr (And.intro rfl ?_); first | (refine congrArg intV ?_) | (refine congrArg boolV ?_) | (refine tupII ?_ ?_) | (refine tupIII ?_ ?_ ?_) | (refine tupU ?_ ?_ ?_ ?_ ?_) | exact rfl))
  · rfl
instance (s : Ram) : Decidable (rmOk s) := by unfold rmOk; infer_instance
instance (s : Ram) : Decidable (rmPl s) := by unfold rmPl; infer_instance
def rmE (s : Ram) : Int := if 24 < s.m then 2 else if rmOk s then 0 else 4
def gamRm : Gam := fun f => match f with
  | 79 => some (s2i (fun _ _ => True) oB)
  | _ => none
theorem gamRm_ok : GOk Try.prog gamRm := fun f g h => by
  unfold gamRm at h
  split at h
  · injection h with h; subst h; exact s2i_ok fun a b _ => rmOut a b
  · cases h
theorem badL_f {l h : Int} (e : badL l h = false) : 0 ≤ l ∧ l ≤ h ∧ h ≤ 100000 := by
  unfold badL at e
  rw [Bool.or_eq_false_iff] at e
  have h1 := oB_f e.1
  have h2 := of_decide_eq_false e.2
  omega
theorem badL_t {l h : Int} (e : 0 ≤ l ∧ l ≤ h ∧ h ≤ 100000) : badL l h = false := by
  unfold badL oB
  rw [Bool.or_eq_false_iff, Bool.or_eq_false_iff]
  exact ⟨⟨decide_eq_false (by omega), decide_eq_false (by omega)⟩, decide_eq_false (by omega)⟩
theorem rmChk (s : Ram) (hm : s.m ≤ maxLen) : Fn1 Try.prog 30 [.c (.sl 2 s.m (c2 s.lo s.hi)), intV s.now, intV s.up, intV s.dn] (intV (rmE s)) := by
  refine fn_of_wpx (O := lex) tab_ok gamRm_ok mixed Try.func30 (by kernel_rfl) rfl rfl rfl (by simp [Try.ntmps30]) (by kernel_rfl) ?_
  conv => whnf
  repeat' (first
    | (refine NilG.mk fun bn hbn hbx => ?_; conv => whnf)
    | (refine Both.mk ?_ ?_ <;> conv => whnf)
    | exact trivial
    | (refine Br.mk (fun hb => ?_) (fun hb => ?_) <;> (first | (exfalso; revert hb; decide) | ((try simp only [BL] at hb) <;> (try simp only [DL] at hb) <;> conv => whnf)))
    | (refine And.intro ?_ ?_; (focus (first | exact id | exact rfl | exact trivial | (intro hg; first | exact hg | exact rfl | (simp; done) | (simp at hg ⊢; assumption)) | omega | decide | exact is2_c _ _ _ | exact is1_c _ _ | exact isS_c _ _ | exact isB_c _ _ | exact Nat.le_refl _ | assumption | exact mulLe (by decide) (by omega) | exact mulLe2 (by decide) (by omega) (by omega) | (intros; simp only [BL] at *; omega) | (intros; (try simp only [BL] at *); (try simp only [DL] at *); omega) | (intros; simp only [BL] at *; rw [wr_id (by omega) (by omega)]; omega) | (intro h1 h2; exact Bool.and_eq_true_iff.2 ⟨h1, h2⟩) | (intros; simp_all; done))); conv => whnf)
    | (refine Or.inr (And.intro rfl ?_); first | (refine congrArg intV ?_) | (refine congrArg boolV ?_) | (refine tupII ?_ ?_) | (refine tupIII ?_ ?_ ?_) | (refine tupU ?_ ?_ ?_ ?_ ?_) | exact rfl))
  · exact (if_pos (by omega)).symm
  refine CallG.mk (Fn.mono (rmLC s.m s.lo s.hi hm) ?_)
  rintro obs r ⟨rfl, rfl⟩
  conv => whnf
  repeat' (first
    | (refine NilG.mk fun bn hbn hbx => ?_; conv => whnf)
    | (refine Both.mk ?_ ?_ <;> conv => whnf)
    | exact trivial
    | (refine Br.mk (fun hb => ?_) (fun hb => ?_) <;> (first | (exfalso; revert hb; decide) | ((try simp only [BL] at hb) <;> (try simp only [DL] at hb) <;> conv => whnf)))
    | (refine And.intro ?_ ?_; (focus (first | exact id | exact rfl | exact trivial | (intro hg; first | exact hg | exact rfl | (simp; done) | (simp at hg ⊢; assumption)) | omega | decide | exact is2_c _ _ _ | exact is1_c _ _ | exact isS_c _ _ | exact isB_c _ _ | exact Nat.le_refl _ | assumption | exact mulLe (by decide) (by omega) | exact mulLe2 (by decide) (by omega) (by omega) | (intros; simp only [BL] at *; omega) | (intros; (try simp only [BL] at *); (try simp only [DL] at *); omega) | (intros; simp only [BL] at *; rw [wr_id (by omega) (by omega)]; omega) | (intro h1 h2; exact Bool.and_eq_true_iff.2 ⟨h1, h2⟩) | first | exact fun _ => trivial | (intros; simp_all; done))); conv => whnf)
    | (refine Or.inr (And.intro rfl ?_); first | (refine congrArg intV ?_) | (refine congrArg boolV ?_) | (refine tupII ?_ ?_) | (refine tupIII ?_ ?_ ?_) | (refine tupU ?_ ?_ ?_ ?_ ?_) | exact rfl))
  · have hno : ¬ rmOk s := fun h => by
      obtain ⟨a1, a2, a3, a4, a5⟩ := h
      rcases hb with ((h | h) | h) | h
      · rw [fidx_none fun k hk => badL_t (a1 k hk)] at h
        exact absurd h (by decide)
      · have := oB_t h; omega
      · have := oB_t h; omega
      · have := oB_t h; omega
    exact ((if_neg (by omega)).trans (if_neg hno)).symm
  · have hok : rmOk s := by
      obtain ⟨⟨⟨a1, a2⟩, a3⟩, a4⟩ := hb
      have := oB_f a2
      have := oB_f a3
      have := oB_f a4
      exact ⟨fun k hk => badL_f (fidx_neg a1 k hk), by omega, by omega, by omega, by omega⟩
    exact ((if_neg (by omega)).trans (if_pos hok)).symm
def gamRI : Gam := fun f => match f with
  | 27 => some (s3 inB)
  | _ => none
theorem gamRI_ok : GOk Try.prog gamRI := fun f g h => by
  unfold gamRI at h
  split at h
  · injection h with h; subst h; exact s3_ok in3
  · cases h
theorem rmErrR (s : Ram) (hm : s.m ≤ maxLen) : Fn1 Try.prog 29 [.c (.sl 2 s.m (c2 s.lo s.hi)), intV s.now, intV s.up, intV s.dn] (intV (rmE s)) := by
  refine fn_of_wpx (O := lex) tab_ok gamRI_ok mixed Try.func29 (by kernel_rfl) rfl rfl rfl (by simp [Try.ntmps29]) (by kernel_rfl) ?_
  have hm' : s.m ≤ 9223372036854775807 := hm
  conv => whnf
  repeat' (first
    | (refine NilG.mk fun bn hbn hbx => ?_; conv => whnf)
    | (refine Both.mk ?_ ?_ <;> conv => whnf)
    | exact trivial
    | (refine Br.mk (fun hb => ?_) (fun hb => ?_) <;> (first | (exfalso; revert hb; decide) | ((try simp only [BL] at hb) <;> (try simp only [DL] at hb) <;> conv => whnf)))
    | (refine And.intro ?_ ?_; (focus (first | exact id | exact rfl | exact trivial | (intro hg; first | exact hg | exact rfl | (simp; done) | (simp at hg ⊢; assumption)) | omega | decide | exact is2_c _ _ _ | exact is1_c _ _ | exact isS_c _ _ | exact isB_c _ _ | exact Nat.le_refl _ | assumption | exact mulLe (by decide) (by omega) | exact mulLe2 (by decide) (by omega) (by omega) | (intros; simp only [BL] at *; omega) | (intros; (try simp only [BL] at *); (try simp only [DL] at *); omega) | (intros; simp only [BL] at *; rw [wr_id (by omega) (by omega)]; omega) | (intro h1 h2; exact Bool.and_eq_true_iff.2 ⟨h1, h2⟩) | (intros; simp_all; done))); conv => whnf)
    | (refine Or.inr (And.intro rfl ?_); first | (refine congrArg intV ?_) | (refine congrArg boolV ?_) | (refine tupII ?_ ?_) | (refine tupIII ?_ ?_ ?_) | (refine tupU ?_ ?_ ?_ ?_ ?_) | exact rfl))
  · exact (if_pos (by omega)).symm
  refine sem_loop tab_ok gamRI_ok mixed (by kernel_rfl) (O := lex) (fun i : Nat => ⟨[(1, intV s.now), (2, intV s.up), (3, intV s.dn), (14, .c (.sl 2 s.m (c2 s.lo s.hi))), (15, intV s.m), (16, intV i)], []⟩) (fun i => i ≤ s.m ∧ ∀ k, k < i → 0 ≤ s.lo k ∧ s.lo k ≤ s.hi k ∧ s.hi k ≤ 100000) (fun i => s.m - i) ⟨0, [], ⟨Nat.zero_le _, fun k hk => absurd hk (Nat.not_lt_zero _)⟩, ?_⟩ fun i hi => ?_
  · refine Sub.of ?_ ?_ ?_
    repeat' (first | (refine And.intro ?_ ?_) | exact trivial | exact fun _ _ _ => hsc _ _ | (exact congrArg intV (by first | with_reducible rfl | with_reducible assumption)) | exact (rfl : AV.idsLt _ _ = true) | exact (rfl : _ = AV.ren _ (.own _)) | exact (rfl : _ = AV.ren _ (.fn _ _)) | exact (rfl : _ = AV.ren _ (.gh _)) | (exact congrArg intV (by assumption)) | (refine congrArg intV ((wr_id (by omega) (by omega)).trans (by omega))) | exact rfl | (simp only [Int.toNat_natCast, Int.toNat_zero, Nat.sub_zero, Nat.zero_add]; first | exact rfl | done) | exact all0 | exact fun h => Bool.noConfusion h | exact fun _ _ _ _ => rfl | omega)
  conv => whnf
  repeat' (first
    | (refine NilG.mk fun bn hbn hbx => ?_; conv => whnf)
    | (refine Both.mk ?_ ?_ <;> conv => whnf)
    | exact trivial
    | (refine Br.mk (fun hb => ?_) (fun hb => ?_) <;> (first | (exfalso; revert hb; decide) | ((try simp only [BL] at hb) <;> (try simp only [DL] at hb) <;> conv => whnf)))
    | (refine And.intro ?_ ?_; (focus (first | exact id | exact rfl | exact trivial | (intro hg; first | exact hg | exact rfl | (simp; done) | (simp at hg ⊢; assumption)) | omega | decide | exact is2_c _ _ _ | exact is1_c _ _ | exact isS_c _ _ | exact isB_c _ _ | exact Nat.le_refl _ | assumption | exact mulLe (by decide) (by omega) | exact mulLe2 (by decide) (by omega) (by omega) | (intros; simp only [BL] at *; omega) | (intros; (try simp only [BL] at *); (try simp only [DL] at *); omega) | (intros; simp only [BL] at *; rw [wr_id (by omega) (by omega)]; omega) | (intro h1 h2; exact Bool.and_eq_true_iff.2 ⟨h1, h2⟩) | (intros; simp_all; done))); conv => whnf)
    | (refine Or.inr (And.intro rfl ?_); first | (refine congrArg intV ?_) | (refine congrArg boolV ?_) | (refine tupII ?_ ?_) | (refine tupIII ?_ ?_ ?_) | (refine tupU ?_ ?_ ?_ ?_ ?_) | exact rfl))
  · exact ((if_neg (by omega)).trans (if_neg fun h => by have := h.1 i (by omega); omega)).symm
  · refine ⟨i + 1, [], ⟨by omega, fun k hk => by
          rcases Nat.lt_succ_iff_lt_or_eq.1 hk with h | rfl
          · exact hi.2 k h
          · omega⟩, by omega, ?_⟩
    refine Sub.of ?_ ?_ ?_
    repeat' (first | (refine And.intro ?_ ?_) | exact trivial | exact fun _ _ _ => hsc _ _ | (exact congrArg intV (by first | with_reducible rfl | with_reducible assumption)) | exact (rfl : AV.idsLt _ _ = true) | exact (rfl : _ = AV.ren _ (.own _)) | exact (rfl : _ = AV.ren _ (.fn _ _)) | exact (rfl : _ = AV.ren _ (.gh _)) | (exact congrArg intV (by assumption)) | (refine congrArg intV ((wr_id (by omega) (by omega)).trans (by omega))) | exact rfl | (simp only [Int.toNat_natCast, Int.toNat_zero, Nat.sub_zero, Nat.zero_add]; first | exact rfl | done) | exact all0 | exact fun h => Bool.noConfusion h | exact fun _ _ _ _ => rfl | omega)
  · exact ((if_neg (by omega)).trans (if_neg fun h => by
      obtain ⟨-, a2, a3, a4, a5⟩ := h
      omega)).symm
  · obtain rfl : i = s.m := by omega
    exact ((if_neg (by omega)).trans (if_pos ⟨hi.2, by omega, by omega, by omega, by omega⟩)).symm
/-- one power of the plan -/
theorem rmPF (p : Int) : Fn1 Try.prog 78 [intV p] (boolV (oB p 100000)) := by
  refine fn_of_wpx (O := lex) tab_ok gamRm_ok mixed Try.func78 (by kernel_rfl) rfl rfl rfl (by simp [Try.ntmps78]) (by kernel_rfl) ?_
  conv => whnf
  repeat' (first
    | (refine NilG.mk fun bn hbn hbx => ?_; conv => whnf)
    | (refine Both.mk ?_ ?_ <;> conv => whnf)
    | exact trivial
    | (refine Br.mk (fun hb => ?_) (fun hb => ?_) <;> (first | (exfalso; revert hb; decide) | ((try simp only [BL] at hb) <;> (try simp only [DL] at hb) <;> conv => whnf)))
    | (refine And.intro ?_ ?_; (focus (first | exact id | exact rfl | exact trivial | (intro hg; first | exact hg | exact rfl | (simp; done) | (simp at hg ⊢; assumption)) | omega | decide | exact is2_c _ _ _ | exact is1_c _ _ | exact isS_c _ _ | exact isB_c _ _ | exact Nat.le_refl _ | assumption | exact mulLe (by decide) (by omega) | exact mulLe2 (by decide) (by omega) (by omega) | (intros; simp only [BL] at *; omega) | (intros; (try simp only [BL] at *); (try simp only [DL] at *); omega) | (intros; simp only [BL] at *; rw [wr_id (by omega) (by omega)]; omega) | (intro h1 h2; exact Bool.and_eq_true_iff.2 ⟨h1, h2⟩) | first | exact fun _ => trivial | (intros; simp_all; done))); conv => whnf)
    | (refine Or.inr (And.intro rfl ?_); first | (refine congrArg intV ?_) | (refine congrArg boolV ?_) | (refine tupII ?_ ?_) | (refine tupIII ?_ ?_ ?_) | (refine tupU ?_ ?_ ?_ ?_ ?_) | exact rfl))
  · rfl
theorem rmPI (m : Nat) (pl : Nat → Int) (hm : m ≤ maxLen) : Fn1 Try.prog 109 [.c (.sl 1 m (c1 pl)), .fn 78 []] (intV (fidx (fun k => oB (pl k) 100000) m)) := by
  refine fn_of_wpx (O := lex) tab_ok (Γ := fun _ => none) (fun _ _ h => by cases h) mixed Try.func109 (by kernel_rfl) rfl rfl rfl (by simp [Try.ntmps109]) (by kernel_rfl) ?_
  have hn' : m ≤ 9223372036854775807 := hm
  conv => whnf
  repeat' (first
    | (refine NilG.mk fun bn hbn hbx => ?_; conv => whnf)
    | (refine Both.mk ?_ ?_ <;> conv => whnf)
    | exact trivial
    | (refine Br.mk (fun hb => ?_) (fun hb => ?_) <;> (first | (exfalso; revert hb; decide) | ((try simp only [BL] at hb) <;> (try simp only [DL] at hb) <;> conv => whnf)))
    | (refine And.intro ?_ ?_; (focus (first | exact id | exact rfl | exact trivial | (intro hg; first | exact hg | exact rfl | (simp; done) | (simp at hg ⊢; assumption)) | omega | decide | exact is2_c _ _ _ | exact is1_c _ _ | exact isS_c _ _ | exact isB_c _ _ | exact Nat.le_refl _ | assumption | exact mulLe (by decide) (by omega) | exact mulLe2 (by decide) (by omega) (by omega) | (intros; simp only [BL] at *; omega) | (intros; (try simp only [BL] at *); (try simp only [DL] at *); omega) | (intros; simp only [BL] at *; rw [wr_id (by omega) (by omega)]; omega) | (intro h1 h2; exact Bool.and_eq_true_iff.2 ⟨h1, h2⟩) | (intros; simp_all; done))); conv => whnf)
    | (refine Or.inr (And.intro rfl ?_); first | (refine congrArg intV ?_) | (refine congrArg boolV ?_) | (refine tupII ?_ ?_) | (refine tupIII ?_ ?_ ?_) | (refine tupU ?_ ?_ ?_ ?_ ?_) | exact rfl))
  refine sem_loop tab_ok gamN1_ok mixed (by kernel_rfl) (O := lex) (fun i : Nat => ⟨[(8, intV i), (7, intV m), (0, .c (.sl 1 m (c1 pl))), (1, .fn 78 [])], []⟩) (fun i => i ≤ m ∧ ∀ k, k < i → oB (pl k) 100000 = false) (fun i => m - i) ⟨0, [], ⟨Nat.zero_le _, fun k hk => absurd hk (Nat.not_lt_zero _)⟩, ?_⟩ fun i hi => ?_
  · refine Sub.of ?_ ?_ ?_
    repeat' (first | (refine And.intro ?_ ?_) | exact trivial | exact fun _ _ _ => hsc _ _ | (exact congrArg intV (by first | with_reducible rfl | with_reducible assumption)) | exact (rfl : AV.idsLt _ _ = true) | exact (rfl : _ = AV.ren _ (.own _)) | exact (rfl : _ = AV.ren _ (.fn _ _)) | exact (rfl : _ = AV.ren _ (.gh _)) | (exact congrArg intV (by assumption)) | (refine congrArg intV ((wr_id (by omega) (by omega)).trans (by omega))) | exact rfl | (simp only [Int.toNat_natCast, Int.toNat_zero, Nat.sub_zero, Nat.zero_add]; first | exact rfl | done) | exact all0 | exact fun h => Bool.noConfusion h | exact fun _ _ _ _ => rfl | omega)
  conv => whnf
  repeat' (first
    | (refine NilG.mk fun bn hbn hbx => ?_; conv => whnf)
    | (refine Both.mk ?_ ?_ <;> conv => whnf)
    | exact trivial
    | (refine Br.mk (fun hb => ?_) (fun hb => ?_) <;> (first | (exfalso; revert hb; decide) | ((try simp only [BL] at hb) <;> (try simp only [DL] at hb) <;> conv => whnf)))
    | (refine And.intro ?_ ?_; (focus (first | exact id | exact rfl | exact trivial | (intro hg; first | exact hg | exact rfl | (simp; done) | (simp at hg ⊢; assumption)) | omega | decide | exact is2_c _ _ _ | exact is1_c _ _ | exact isS_c _ _ | exact isB_c _ _ | exact Nat.le_refl _ | assumption | exact mulLe (by decide) (by omega) | exact mulLe2 (by decide) (by omega) (by omega) | (intros; simp only [BL] at *; omega) | (intros; (try simp only [BL] at *); (try simp only [DL] at *); omega) | (intros; simp only [BL] at *; rw [wr_id (by omega) (by omega)]; omega) | (intro h1 h2; exact Bool.and_eq_true_iff.2 ⟨h1, h2⟩) | (intros; simp_all; done))); conv => whnf)
    | (refine Or.inr (And.intro rfl ?_); first | (refine congrArg intV ?_) | (refine congrArg boolV ?_) | (refine tupII ?_ ?_) | (refine tupIII ?_ ?_ ?_) | (refine tupU ?_ ?_ ?_ ?_ ?_) | exact rfl))
  · refine CallG.mk (Fn.mono (rmPF _) ?_)
    rintro obs r ⟨rfl, rfl⟩
    conv => whnf
    repeat' (first
      | (refine NilG.mk fun bn hbn hbx => ?_; conv => whnf)
      | (refine Both.mk ?_ ?_ <;> conv => whnf)
      | exact trivial
      | (refine Br.mk (fun hb => ?_) (fun hb => ?_) <;> (first | (exfalso; revert hb; decide) | ((try simp only [BL] at hb) <;> (try simp only [DL] at hb) <;> conv => whnf)))
      | (refine And.intro ?_ ?_; (focus (first | exact id | exact rfl | exact trivial | (intro hg; first | exact hg | exact rfl | (simp; done) | (simp at hg ⊢; assumption)) | omega | decide | exact is2_c _ _ _ | exact is1_c _ _ | exact isS_c _ _ | exact isB_c _ _ | exact Nat.le_refl _ | assumption | exact mulLe (by decide) (by omega) | exact mulLe2 (by decide) (by omega) (by omega) | (intros; simp only [BL] at *; omega) | (intros; (try simp only [BL] at *); (try simp only [DL] at *); omega) | (intros; simp only [BL] at *; rw [wr_id (by omega) (by omega)]; omega) | (intro h1 h2; exact Bool.and_eq_true_iff.2 ⟨h1, h2⟩) | (intros; simp_all; done))); conv => whnf)
      | (refine Or.inr (And.intro rfl ?_); first | (refine congrArg intV ?_) | (refine congrArg boolV ?_) | (refine tupII ?_ ?_) | (refine tupIII ?_ ?_ ?_) | (refine tupU ?_ ?_ ?_ ?_ ?_) | exact rfl))
    · refine (fidx_at hi.2 ?_ (by omega)).symm
      exact hb
    · refine ⟨i + 1, [], ⟨by omega, fun k hk => by
            rcases Nat.lt_succ_iff_lt_or_eq.1 hk with h | rfl
            · exact hi.2 k h
            · exact hb⟩, by omega, ?_⟩
      refine Sub.of ?_ ?_ ?_
      repeat' (first | (refine And.intro ?_ ?_) | exact trivial | exact fun _ _ _ => hsc _ _ | (exact congrArg intV (by first | with_reducible rfl | with_reducible assumption)) | exact (rfl : AV.idsLt _ _ = true) | exact (rfl : _ = AV.ren _ (.own _)) | exact (rfl : _ = AV.ren _ (.fn _ _)) | exact (rfl : _ = AV.ren _ (.gh _)) | (exact congrArg intV (by assumption)) | (refine congrArg intV ((wr_id (by omega) (by omega)).trans (by omega))) | exact rfl | (simp only [Int.toNat_natCast, Int.toNat_zero, Nat.sub_zero, Nat.zero_add]; first | exact rfl | done) | exact all0 | exact fun h => Bool.noConfusion h | exact fun _ _ _ _ => rfl | omega)
  · obtain rfl : i = m := by omega
    exact (fidx_none hi.2).symm
theorem rmPC (m : Nat) (pl : Nat → Int) (hm : m ≤ maxLen) : Fn1 Try.prog 77 [.c (.sl 1 m (c1 pl)), .fn 78 []] (boolV (decide (fidx (fun k => oB (pl k) 100000) m ≥ 0))) := by
  refine fn_of_wpx (O := lex) tab_ok (Γ := fun _ => none) (fun _ _ h => by cases h) mixed Try.func77 (by kernel_rfl) rfl rfl rfl (by simp [Try.ntmps77]) (by kernel_rfl) ?_
  conv => whnf
  repeat' (first
    | (refine NilG.mk fun bn hbn hbx => ?_; conv => whnf)
    | (refine Both.mk ?_ ?_ <;> conv => whnf)
    | exact trivial
    | (refine Br.mk (fun hb => ?_) (fun hb => ?_) <;> (first | (exfalso; revert hb; decide) | ((try simp only [BL] at hb) <;> (try simp only [DL] at hb) <;> conv => whnf)))
    | (refine And.intro ?_ ?_; (focus (first | exact id | exact rfl | exact trivial | (intro hg; first | exact hg | exact rfl | (simp; done) | (simp at hg ⊢; assumption)) | omega | decide | exact is2_c _ _ _ | exact is1_c _ _ | exact isS_c _ _ | exact isB_c _ _ | exact Nat.le_refl _ | assumption | exact mulLe (by decide) (by omega) | exact mulLe2 (by decide) (by omega) (by omega) | (intros; simp only [BL] at *; omega) | (intros; (try simp only [BL] at *); (try simp only [DL] at *); omega) | (intros; simp only [BL] at *; rw [wr_id (by omega) (by omega)]; omega) | (intro h1 h2; exact Bool.and_eq_true_iff.2 ⟨h1, h2⟩) | (intros; simp_all; done))); conv => whnf)
    | (refine Or.inr (And.intro rfl ?_); first | (refine congrArg intV ?_) | (refine congrArg boolV ?_) | (refine tupII ?_ ?_) | (refine tupIII ?_ ?_ ?_) | (refine tupU ?_ ?_ ?_ ?_ ?_) | exact rfl))
  refine CallG.mk (Fn.mono (rmPI m pl hm) ?_)
  rintro obs r ⟨rfl, rfl⟩
  conv => whnf
  repeat' (first
    | (refine NilG.mk fun bn hbn hbx => ?_; conv => whnf)
    | (refine Both.mk ?_ ?_ <;> conv => whnf)
    | exact trivial
    | (refine Br.mk (fun hb => ?_) (fun hb => ?_) <;> (first | (exfalso; revert hb; decide) | ((try simp only [BL] at hb) <;> (try simp only [DL] at hb) <;> conv => whnf)))
    | (refine And.intro ?_ ?_; (focus (first | exact id | exact rfl | exact trivial | (intro hg; first | exact hg | exact rfl | (simp; done) | (simp at hg ⊢; assumption)) | omega | decide | exact is2_c _ _ _ | exact is1_c _ _ | exact isS_c _ _ | exact isB_c _ _ | exact Nat.le_refl _ | assumption | exact mulLe (by decide) (by omega) | exact mulLe2 (by decide) (by omega) (by omega) | (intros; simp only [BL] at *; omega) | (intros; (try simp only [BL] at *); (try simp only [DL] at *); omega) | (intros; simp only [BL] at *; rw [wr_id (by omega) (by omega)]; omega) | (intro h1 h2; exact Bool.and_eq_true_iff.2 ⟨h1, h2⟩) | (intros; simp_all; done))); conv => whnf)
    | (refine Or.inr (And.intro rfl ?_); first | (refine congrArg intV ?_) | (refine congrArg boolV ?_) | (refine tupII ?_ ?_) | (refine tupIII ?_ ?_ ?_) | (refine tupU ?_ ?_ ?_ ?_ ?_) | exact rfl))
  · rfl
end Go.Proofs.Ytkkkldhilofgmaa

namespace Go.Proofs.Ytkkkldhilofgmaa
open Go.RowKit

/-- the chain of costs -/
def rmCh (s : Ram) (m : Nat) (F : Nat → Cxt) : Prop := F 0 = nowC s ∧ (∀ t, t < m → rmR s t (F t) (F (t + 1))) ∧ ∀ t, t ≤ m → rmB t (F t)
/-- no power is left in period t -/
def rmNo (s : Ram) (t : Nat) (F : Nat → Cxt) : Prop := t < s.m ∧ rmCh s t F ∧ max ((F t).lo - s.dn) (s.lo t) > min ((F t).hi + s.up) (s.hi t)
theorem now_ch {s : Ram} (h : rmOk s) (h2 : rmS s) : rmCh s 0 fun _ => nowC s := ⟨rfl, fun t h => absurd h (Nat.not_lt_zero t), fun t ht => by
  obtain rfl : t = 0 := by omega
  exact (nowC_B h h2).1⟩
theorem push_rm {s : Ram} {t : Nat} {F : Nat → Cxt} {g : Cxt} (h : rmCh s t F) (h1 : rmR s t (F t) g) (h2 : rmB (t + 1) g) : rmCh s (t + 1) (pushC F (t + 1) g) := by
  obtain ⟨a1, a2, a3⟩ := h
  have e1 : ∀ k, k ≤ t → pushC F (t + 1) g k = F k := fun k hk => if_pos (by omega)
  have e2 : pushC F (t + 1) g (t + 1) = g := if_neg (by omega)
  refine ⟨(e1 0 (Nat.zero_le t)).trans a1, fun k hk => ?_, fun k hk => ?_⟩
  · by_cases e : k = t
    · rw [e, e1 t (Nat.le_refl t), e2]; exact h1
    · rw [e1 k (by omega), e1 (k + 1) (by omega)]; exact a2 k (by omega)
  · by_cases e : k = t + 1
    · rw [e, e2]; exact h2
    · rw [e1 k (by omega)]; exact a3 k (by omega)
theorem rch_eq {s : Ram} {m : Nat} {F F' : Nat → Cxt} (h : rmCh s m F) (h' : rmCh s m F') : ∀ t, t ≤ m → (F t).lo = (F' t).lo ∧ (F t).hi = (F' t).hi ∧ ∀ k, (F t).in k → (F t).V k = (F' t).V k
  | 0, _ => by rw [h.1, h'.1]; exact ⟨rfl, rfl, fun _ _ => rfl⟩
  | t + 1, ht => by
    obtain ⟨e1, e2, e3⟩ := rch_eq h h' t (by omega)
    obtain ⟨-, a2, a3, a5⟩ := h.2.1 t (by omega)
    obtain ⟨-, b2, b3, b5⟩ := h'.2.1 t (by omega)
    have g1 : (F (t + 1)).lo = (F' (t + 1)).lo := by rw [a2, b2, e1]
    have g2 : (F (t + 1)).hi = (F' (t + 1)).hi := by rw [a3, b3, e2]
    refine ⟨g1, g2, fun k hk => ?_⟩
    have hk' : (F' (t + 1)).in k := ⟨by rw [← g1]; exact hk.1, by rw [← g2]; exact hk.2⟩
    have hin : ∀ b, (F t).in b → (F' t).in b := fun b hb => ⟨by rw [← e1]; exact hb.1, by rw [← e2]; exact hb.2⟩
    have hin' : ∀ b, (F' t).in b → (F t).in b := fun b hb => ⟨by rw [e1]; exact hb.1, by rw [e2]; exact hb.2⟩
    obtain ⟨c1, b, c2, c3, c4, c5⟩ := a5 k hk
    obtain ⟨d1, b', d2, d3, d4, d5⟩ := b5 k hk'
    have x1 := c1 b' (hin' _ d2) d3 d4
    have x2 := d1 b (hin _ c2) c3 c4
    rw [e3 b' (hin' _ d2)] at x1
    rw [← e3 b c2] at x2
    omega
/-- the first one of the least costs -/
def rmEnd (f : Cxt) (k : Int) : Prop := f.in k ∧ ∀ z, f.in z → f.V k ≤ f.V z ∧ (z < k → f.V k < f.V z)
/-- the first one of the least costs of what leads to k' -/
def rmPrev (s : Ram) (f : Cxt) (k' k : Int) : Prop := f.in k ∧ -s.dn ≤ k' - k ∧ k' - k ≤ s.up ∧ ∀ z, f.in z → -s.dn ≤ k' - z → k' - z ≤ s.up → f.V k ≤ f.V z ∧ (z < k → f.V k < f.V z)
theorem rend_one {f : Cxt} {k k' : Int} (h : rmEnd f k) (h' : rmEnd f k') : k = k' := by
  have a := h.2 k' h'.1
  have b := h'.2 k h.1
  rcases Int.lt_trichotomy k k' with e | e | e
  · have := b.2 e; omega
  · exact e
  · have := a.2 e; omega
theorem rend_of {f : Cxt} (h : f.ok) : rmEnd f (f.at 0) := ⟨Cxt.at_in h 0, fun _ hz => Cxt.first h hz⟩
/-- what is first in the part that leads to k' -/
theorem rprev_of {s : Ram} {f g : Cxt} {k' : Int} (hr : rsR f (k' - s.up) (k' + s.dn) g) : rmPrev s f k' (g.at 0) := by
  obtain ⟨r1, r2, r3, r4, r5⟩ := hr
  have hin := Cxt.at_in r1 0
  have h1 := (r5 _ hin).1
  have l1 := hin.1
  have l2 := hin.2
  refine ⟨h1, by omega, by omega, fun z hz h2 h3 => ?_⟩
  have hgz : g.in z := ⟨by rw [r2]; have := hz.1; omega, by rw [r3]; have := hz.2; omega⟩
  have h4 := Cxt.first r1 hgz
  rw [(r5 _ hgz).2, (r5 _ hin).2] at h4
  exact h4
/-- a power that is reached is led to by some power -/
theorem rprev_some {s : Ram} {t : Nat} {f g : Cxt} {k : Int} (hR : rmR s t f g) (hk : g.in k) : max f.lo (k - s.up) ≤ min f.hi (k + s.dn) := by
  obtain ⟨-, b, h1, h2, h3, -⟩ := hR.2.2.2 k hk
  have := h1.1
  have := h1.2
  omega
/-- the power before costs what is left -/
theorem rlv_eq {s : Ram} {t : Nat} {f g : Cxt} {b k : Int} (hR : rmR s t f g) (hk : g.in k) (hl : rmPrev s f k b) : g.V k = f.V b + dis k (s.pl t) := by
  obtain ⟨h1, b', h2, h3, h4, h5⟩ := hR.2.2.2 k hk
  have := h1 b hl.1 hl.2.1 hl.2.2.1
  have := (hl.2.2.2 b' h2 h3 h4).1
  omega
theorem mov_ok {s : Ram} (hs : rmOk s) : (movC s).ok := by
  obtain ⟨-, -, u1, u2, u3⟩ := hs
  exact lineC_ok (by omega) (by omega) (by omega) (by omega)
/-- a period as the code takes it: nothing is left, or the limit is taken -/
theorem rm_goE {s : Ram} {t : Nat} {F : Nat → Cxt} {e1 e2 : Int} {fa fg : Cxt} (hs : rmOk s) (hm : s.m ≤ 24) (ht : t < s.m) (hc : rmCh s t F)
    (hA : (F t).ok → (movC s).ok → cvB (F t) (movC s) → e1 = 0 ∧ cvR (F t) (movC s) fa)
    (hG : fa.ok → (max fa.lo (s.lo t) > min fa.hi (s.hi t) ∧ e2 = 8 ∧ fg.n = 0) ∨ (max fa.lo (s.lo t) ≤ min fa.hi (s.hi t) ∧ e2 = 0 ∧ rsR fa (s.lo t) (s.hi t) fg)) :
    (¬ e2 = 0 → e2 = 8 ∧ rmNo s t F) ∧ (e2 = 0 → cvR (F t) (movC s) fa ∧ rsR fa (s.lo t) (s.hi t) fg) := by
  have hB := hc.2.2 t (Nat.le_refl t)
  have h1 := (hA hB.1 (mov_ok hs) (mov_cvB hs hB (by omega))).2
  have h2 := h1
  obtain ⟨a1, a2, a3, -, -⟩ := h2
  have hs' := hs
  obtain ⟨-, -, u1, u2, u3⟩ := hs'
  have hh : (movC s).hi = s.up := lineC_hi (lo := -s.dn) (hi := s.up) (sl := 0) (by omega)
  have hl : (movC s).lo = -s.dn := rfl
  rw [hl] at a2
  rw [hh] at a3
  rcases hG a1 with ⟨g1, g2, -⟩ | ⟨-, g2, g3⟩
  · exact ⟨fun _ => ⟨g2, ht, hc, by omega⟩, fun e => by omega⟩
  · exact ⟨fun e => absurd g2 e, fun _ => ⟨h1, g3⟩⟩
theorem rm_goC {s : Ram} {t : Nat} {F : Nat → Cxt} {e1 e2 e3 : Int} {fa fg fh : Cxt} (hs : rmOk s) (hS : rmS s) (hp : rmPl s) (hm : s.m ≤ 24) (ht : t < s.m) (hc : rmCh s t F)
    (hA : (F t).ok → (movC s).ok → cvB (F t) (movC s) → e1 = 0 ∧ cvR (F t) (movC s) fa)
    (hG : fa.ok → (max fa.lo (s.lo t) > min fa.hi (s.hi t) ∧ e2 = 8 ∧ fg.n = 0) ∨ (max fa.lo (s.lo t) ≤ min fa.hi (s.hi t) ∧ e2 = 0 ∧ rsR fa (s.lo t) (s.hi t) fg))
    (hH : fg.ok → (awC (s.pl t)).ok → asB fg (awC (s.pl t)) → e3 = 0 ∧ asR fg (awC (s.pl t)) fh) (he : e2 = 0) : rmCh s (t + 1) (pushC F (t + 1) fh) := by
  have hB := hc.2.2 t (Nat.le_refl t)
  obtain ⟨h1, h2⟩ := (rm_goE hs hm ht hc hA hG).2 he
  have h3 := (hH h2.1 (awC_ok (hp t ht).1 (hp t ht).2) (rm_asB hs hS hp hm ht hB h1 h2)).2
  have h4 := rm_next hs hS hp ht hB h1 h2 h3
  exact push_rm hc h4.1 h4.2

/-- the way back: the powers from period t on -/
def rmBk (s : Ram) (F : Nat → Cxt) (t : Nat) (sc : Nat → Int) (d : Int) : Prop := ∃ lv : Nat → Int, (t < s.m → rmEnd (F s.m) (lv s.m)) ∧ (∀ u, t < u → u < s.m → rmPrev s (F u) (lv (u + 1)) (lv u)) ∧ (∀ u, t ≤ u → u < s.m → sc u = lv (u + 1)) ∧ d = if t = s.m then 0 else (F s.m).V (lv s.m)
theorem rmBk_zero (s : Ram) (F : Nat → Cxt) (sc : Nat → Int) : rmBk s F s.m sc 0 := ⟨fun _ => 0, fun h => absurd h (Nat.lt_irrefl _), fun u h1 h2 => absurd h2 (by omega), fun u h1 h2 => absurd h2 (by omega), (if_pos rfl).symm⟩
theorem rmBk_first {s : Ram} {F : Nat → Cxt} {j : Nat} {sc' : Nat → Int} (hc : rmCh s s.m F) (hj : s.m = j + 1) (h : sc' j = (F s.m).at 0) : rmBk s F j sc' ((F s.m).V ((F s.m).at 0)) :=
  ⟨fun _ => (F s.m).at 0, fun _ => rend_of (hc.2.2 s.m (Nat.le_refl _)).1, fun u h1 h2 => absurd h2 (by omega), fun u h1 h2 => by
    rw [show u = j by omega]; exact h, (if_neg (by omega)).symm⟩
theorem rmBk_in {s : Ram} {F : Nat → Cxt} {t : Nat} {sc : Nat → Int} {d : Int} (h : rmBk s F t sc d) (ht : t < s.m) : (F (t + 1)).in (sc t) := by
  obtain ⟨lv, h1, h2, h3, -⟩ := h
  rw [h3 t (Nat.le_refl t) ht]
  by_cases e : t + 1 = s.m
  · rw [e]; exact (h1 ht).1
  · exact (h2 (t + 1) (by omega) (by omega)).1
theorem rmBk_next {s : Ram} {F : Nat → Cxt} {j : Nat} {sc sc' : Nat → Int} {d : Int} {g : Cxt} (hj : j + 1 < s.m) (hb : rmBk s F (j + 1) sc d) (hr : rsR (F (j + 1)) (sc (j + 1) - s.up) (sc (j + 1) + s.dn) g) (h : sc' j = g.at 0) (h' : ∀ u, j < u → sc' u = sc u) : rmBk s F j sc' d := by
  obtain ⟨lv, h1, h2, h3, h4⟩ := hb
  have e1 := h3 (j + 1) (Nat.le_refl _) hj
  rw [e1] at hr
  have hp := rprev_of hr
  have k1 : ∀ u, ¬ u = j + 1 → (if u = j + 1 then g.at 0 else lv u) = lv u := fun u hu => if_neg hu
  refine ⟨fun u => if u = j + 1 then g.at 0 else lv u, fun _ => ?_, fun u u1 u2 => ?_, fun u u1 u2 => ?_, ?_⟩
  · show rmEnd (F s.m) (if s.m = j + 1 then g.at 0 else lv s.m)
    rw [k1 _ (by omega)]
    exact h1 hj
  · show rmPrev s (F u) (if u + 1 = j + 1 then g.at 0 else lv (u + 1)) (if u = j + 1 then g.at 0 else lv u)
    rw [k1 (u + 1) (by omega)]
    by_cases e : u = j + 1
    · rw [if_pos e, e]; exact hp
    · rw [k1 u e]; exact h2 u (by omega) u2
  · show sc' u = if u + 1 = j + 1 then g.at 0 else lv (u + 1)
    by_cases e : u = j
    · rw [if_pos (by omega), e]; exact h
    · rw [k1 (u + 1) (by omega), h' u (by omega)]; exact h3 u (by omega) u2
  · show d = if j = s.m then 0 else (F s.m).V (if s.m = j + 1 then g.at 0 else lv s.m)
    rw [k1 _ (by omega), h4, if_neg (by omega), if_neg (by omega)]
theorem rmBk_end {s : Ram} {F : Nat → Cxt} {sc : Nat → Int} {d : Int} (hc : rmCh s s.m F) (h : rmBk s F 0 sc d) : ∃ lv : Nat → Int, rmEnd (F s.m) (lv s.m) ∧ (∀ t, 1 ≤ t → t < s.m → rmPrev s (F t) (lv (t + 1)) (lv t)) ∧ (∀ t, t < s.m → sc t = lv (t + 1)) ∧ d = if s.m = 0 then 0 else (F s.m).V (lv s.m) := by
  obtain ⟨lv, h1, h2, h3, h4⟩ := h
  by_cases e : s.m = 0
  · refine ⟨fun _ => (F s.m).at 0, rend_of (hc.2.2 s.m (Nat.le_refl _)).1, fun t t1 t2 => absurd t2 (by omega), fun t t2 => absurd t2 (by omega), ?_⟩
    rw [h4, if_pos e, if_pos e.symm]
  · exact ⟨lv, h1 (by omega), fun t t1 t2 => h2 t t1 t2, fun t t2 => h3 t (Nat.zero_le t) t2, by rw [h4, if_neg e, if_neg (fun h => e h.symm)]⟩
end Go.Proofs.Ytkkkldhilofgmaa

namespace Go.Proofs.Ytkkkldhilofgmaa
open Go.RowKit

def NV : Int := 1152921504606846976
/-- the cost of a power, or never -/
def lvV (f : Cxt) (k : Int) : Int := if f.lo ≤ k ∧ k ≤ f.hi then f.V k else NV
/-- power k is permitted in period t behind power b -/
def cnd (s : Ram) (t : Nat) (k b : Int) : Prop := (s.lo t ≤ k ∧ k ≤ s.hi t) ∧ -s.dn ≤ k - b ∧ k - b ≤ s.up
/-- the least cost of power k behind the first z powers -/
def clI (s : Ram) (t : Nat) (g : Nat → Int) (k : Int) (z : Nat) (A : Int) : Prop := (∀ b, b < z → g b < NV → cnd s t k (b : Nat) → A ≤ g b + dis k (s.pl t)) ∧ (A = NV ∨ ∃ b, b < z ∧ g b < NV ∧ cnd s t k (b : Nat) ∧ A = g b + dis k (s.pl t))
/-- the rows -/
def clCh (s : Ram) (t : Nat) (G : Nat → Nat → Int) : Prop := (∀ k : Nat, k < 41 → G 0 k = if (k : Int) = s.now then 0 else NV) ∧ ∀ u, u < t → ∀ k : Nat, k < 41 → clI s u (G u) k 41 (G (u + 1) k)
theorem clI_zero (s : Ram) (t : Nat) (g : Nat → Int) (k : Int) : clI s t g k 0 NV := ⟨fun b h => absurd h (Nat.not_lt_zero b), .inl rfl⟩
theorem clI_no {s : Ram} {t : Nat} {g : Nat → Int} {k A : Int} {z : Nat} (h : clI s t g k z A) (hn : ¬ (g z < NV ∧ cnd s t k (z : Nat))) : clI s t g k (z + 1) A := by
  refine ⟨fun b h1 h2 h3 => ?_, ?_⟩
  · by_cases e : b = z
    · subst e; exact absurd ⟨h2, h3⟩ hn
    · exact h.1 b (by omega) h2 h3
  · rcases h.2 with e | ⟨b, h1, h2⟩
    · exact .inl e
    · exact .inr ⟨b, by omega, h2⟩
theorem clI_yes {s : Ram} {t : Nat} {g : Nat → Int} {k A : Int} {z : Nat} (h : clI s t g k z A) (h1 : g z < NV) (h2 : cnd s t k (z : Nat)) : clI s t g k (z + 1) (min A (g z + dis k (s.pl t))) := by
  refine ⟨fun b h3 h4 h5 => ?_, ?_⟩
  · by_cases e : b = z
    · subst e; exact Int.min_le_right _ _
    · have := h.1 b (by omega) h4 h5
      omega
  · rcases Int.le_total A (g z + dis k (s.pl t)) with e | e
    · rw [Int.min_eq_left e]
      rcases h.2 with e | ⟨b, h3, h4⟩
      · exact .inl e
      · exact .inr ⟨b, by omega, h4⟩
    · rw [Int.min_eq_right e]
      exact .inr ⟨z, by omega, h1, h2, rfl⟩
/-- what is known of a row -/
def clB (t : Nat) (g : Nat → Int) : Prop := ∀ k, k < 41 → 0 ≤ g k ∧ (g k = NV ∨ g k ≤ 40 * (t : Int))
theorem dis_40 {k p : Int} (h : 0 ≤ k ∧ k ≤ 40) (h2 : 0 ≤ p ∧ p ≤ 40) : 0 ≤ dis k p ∧ dis k p ≤ 40 := dis_b h h2
theorem cl_B {s : Ram} {t : Nat} {G : Nat → Nat → Int} (hS : rmS s) (hp : rmPl s) (ht : t ≤ s.m) (h : clCh s t G) : ∀ u, u ≤ t → clB u (G u)
  | 0, _ => fun k hk => by
    rw [h.1 k hk]
    split
    · exact ⟨Int.le_refl 0, .inr (by omega)⟩
    · exact ⟨by unfold NV; decide, .inl rfl⟩
  | u + 1, hu => fun k hk => by
    have ih := cl_B hS hp ht h u (by omega)
    have hpl := hp u (by omega)
    have hsm := hS.2 u (by omega)
    have hd := dis_b (k := k) (p := s.pl u) (by omega) (by omega)
    obtain ⟨-, e | ⟨b, b1, b2, b3, b4⟩⟩ := h.2 u (by omega) k hk
    · rw [e]; exact ⟨by unfold NV; decide, .inl rfl⟩
    · have h9 := ih b b1
      rw [b4]
      rcases h9.2 with e | e
      · omega
      · exact ⟨by omega, .inr (by omega)⟩
theorem cl_lt {t : Nat} {g : Nat → Int} (h : clB t g) {k : Nat} (hk : k < 41) (ht : t ≤ 24) : g k < NV ↔ ¬ g k = NV := by
  have := (h k hk).2
  have e : NV = 1152921504606846976 := rfl
  omega
theorem lv_lt {t : Nat} {f : Cxt} (hf : rmB t f) (ht : t ≤ 24) (k : Int) : lvV f k < NV ↔ f.in k := by
  unfold lvV
  by_cases h : f.lo ≤ k ∧ k ≤ f.hi
  · rw [if_pos h]
    have := hf.2.2.2 k h
    exact ⟨fun _ => h, fun _ => by unfold NV; omega⟩
  · rw [if_neg h]
    exact ⟨fun h2 => absurd h2 (Int.lt_irrefl _), fun h2 => absurd h2 h⟩
/-- the rows are the chain's costs -/
theorem cl_lv {s : Ram} {t : Nat} {G : Nat → Nat → Int} {F : Nat → Cxt} (hs : rmOk s) (hS : rmS s) (hm : t ≤ 24) (h : clCh s t G) (hc : rmCh s t F) : ∀ u, u ≤ t → ∀ k, k < 41 → G u k = lvV (F u) k
  | 0, _ => fun k hk => by
    obtain ⟨-, n1, n2, n3⟩ := nowC_B hs hS
    rw [h.1 k hk, hc.1]
    unfold lvV
    rw [n1, n2]
    by_cases e : (k : Int) = s.now
    · rw [if_pos e, if_pos (by omega), e, n3]
    · rw [if_neg e, if_neg (by omega)]
  | u + 1, hu => fun k hk => by
    have ih := cl_lv hs hS hm h hc u (by omega)
    obtain ⟨c1, c2⟩ := h.2 u (by omega) k hk
    have hB := hc.2.2 u (by omega)
    have hB' := hc.2.2 (u + 1) (by omega)
    obtain ⟨-, r2, r3, r4⟩ := hc.2.1 u (by omega)
    have hin : ∀ b : Nat, b < 41 → (G u b < NV ↔ (F u).in b) ∧ ((F u).in b → G u b = (F u).V b) := fun b hb => by
      rw [ih b hb]
      exact ⟨lv_lt hB (by omega) b, fun h => if_pos h⟩
    unfold lvV
    by_cases e : (F (u + 1)).lo ≤ k ∧ (k : Int) ≤ (F (u + 1)).hi
    · rw [if_pos e]
      obtain ⟨d1, b, d2, d3, d4, d5⟩ := r4 k e
      have b1 := d2.1
      have b2 := d2.2
      have b3 := hB.2.1
      have b4 := hB.2.2.1
      have e1 := c1 b.toNat (by omega)
      have h9 := hin b.toNat (by omega)
      rw [show ((b.toNat : Nat) : Int) = b by omega] at e1 h9
      have e2 := e1 (h9.1.2 d2) ⟨⟨by omega, by omega⟩, d3, d4⟩
      rw [h9.2 d2] at e2
      rcases c2 with c2 | ⟨b', f1, f2, f3, f4⟩
      · have hV := hB'.2.2.2 k e
        rw [c2] at e2
        unfold NV at e2
        omega
      · have h8 := hin b' f1
        have g1 := d1 b' (h8.1.1 f2) f3.2.1 f3.2.2
        rw [h8.2 (h8.1.1 f2)] at f4
        omega
    · rw [if_neg e]
      rcases c2 with c2 | ⟨b', f1, f2, f3, f4⟩
      · exact c2
      · have h8 := (hin b' f1).1.1 f2
        have g1 := h8.1
        have g2 := h8.2
        have g3 := f3.2.1
        have g4 := f3.2.2
        have g5 := f3.1
        exfalso; apply e; omega
/-- no power is left: nor in the rows -/
theorem cl_no {s : Ram} {t : Nat} {G : Nat → Nat → Int} {F : Nat → Cxt} (hs : rmOk s) (hS : rmS s) (hm : s.m ≤ 24) (h : clCh s s.m G) (hn : rmNo s t F) : ∀ d, t + 1 + d ≤ s.m → ∀ k, k < 41 → G (t + 1 + d) k = NV
  | 0, h0 => fun k hk => by
    obtain ⟨n1, n2, n3⟩ := hn
    have hl := cl_lv hs hS (t := t) (by omega) ⟨h.1, fun u hu => h.2 u (by omega)⟩ n2 t (Nat.le_refl t)
    have hB := n2.2.2 t (Nat.le_refl t)
    rcases (h.2 t n1 k hk).2 with e | ⟨b, f1, f2, f3, f4⟩
    · exact e
    · rw [hl b f1] at f2
      have h8 := (lv_lt hB (by omega) b).1 f2
      have g1 := h8.1
      have g2 := h8.2
      have g3 := f3.2.1
      have g4 := f3.2.2
      have g5 := f3.1
      exfalso; omega
  | d + 1, h0 => fun k hk => by
    have ih := cl_no hs hS hm h hn d (by omega)
    rcases (h.2 (t + 1 + d) (by omega) k hk).2 with e | ⟨b, f1, f2, f3, f4⟩
    · exact e
    · rw [ih b f1] at f2
      exact absurd f2 (Int.lt_irrefl _)
/-- the search for the first least one -/
def rmSr (g : Nat → Int) (z : Nat) (a : Int) : Prop := (a = -1 ∧ ∀ y, y < z → ¬ g y < NV) ∨ (0 ≤ a ∧ a < z ∧ g a.toNat < NV ∧ ∀ y, y < z → g y < NV → g a.toNat ≤ g y ∧ ((y : Int) < a → g a.toNat < g y))
theorem sr_yes {g : Nat → Int} {z : Nat} {a : Int} (h : rmSr g z a) (h1 : g z < NV) (h2 : a < 0 ∨ g z < g a.toNat) : rmSr g (z + 1) z := by
  refine .inr ⟨by omega, by omega, h1, fun y hy h3 => ?_⟩
  rw [show ((z : Nat) : Int).toNat = z by omega]
  by_cases e : y = z
  · subst e; exact ⟨Int.le_refl _, fun h => by omega⟩
  · rcases h with ⟨-, h⟩ | ⟨h4, h5, h6, h7⟩
    · exact absurd h3 (h y (by omega))
    · have := (h7 y (by omega) h3).1
      exact ⟨by omega, fun _ => by omega⟩
theorem sr_no {g : Nat → Int} {z : Nat} {a : Int} (h : rmSr g z a) (h1 : ¬ g z < NV ∨ (¬ a < 0 ∧ ¬ g z < g a.toNat)) : rmSr g (z + 1) a := by
  rcases h with ⟨h2, h3⟩ | ⟨h4, h5, h6, h7⟩
  · refine .inl ⟨h2, fun y hy => ?_⟩
    by_cases e : y = z
    · subst e
      rcases h1 with h | h
      · exact h
      · omega
    · exact h3 y (by omega)
  · refine .inr ⟨h4, by omega, h6, fun y hy h8 => ?_⟩
    by_cases e : y = z
    · subst e
      rcases h1 with h | h
      · exact absurd h8 h
      · exact ⟨by omega, fun h9 => by omega⟩
    · exact h7 y (by omega) h8
/-- what the search finds is the first end of the chain's costs -/
theorem sr_end {t : Nat} {f : Cxt} {g : Nat → Int} {a : Int} (hB : rmB t f) (ht : t ≤ 24) (hg : ∀ k, k < 41 → g k = lvV f k) (h : rmSr g 41 a) : (a = -1 ∧ False) ∨ (0 ≤ a ∧ a < 41 ∧ rmEnd f a ∧ g a.toNat = f.V a) := by
  have hle := Cxt.le hB.1
  have b1 := hB.2.1
  have b2 := hB.2.2.1
  rcases h with ⟨h2, h3⟩ | ⟨h4, h5, h6, h7⟩
  · have := h3 f.lo.toNat (by omega)
    rw [hg _ (by omega), show ((f.lo.toNat : Nat) : Int) = f.lo by omega] at this
    exact absurd ((lv_lt hB ht f.lo).2 ⟨Int.le_refl _, hle⟩) this
  · have ha : ((a.toNat : Nat) : Int) = a := by omega
    have hga := hg a.toNat (by omega)
    rw [ha] at hga
    have hin := (lv_lt hB ht a).1 (by rw [← hga]; exact h6)
    have hva : g a.toNat = f.V a := hga.trans (if_pos hin)
    refine .inr ⟨h4, h5, ⟨hin, fun z hz => ?_⟩, hva⟩
    have z1 := hz.1
    have z2 := hz.2
    have hgz := hg z.toNat (by omega)
    rw [show ((z.toNat : Nat) : Int) = z by omega] at hgz
    have h8 := h7 z.toNat (by omega) (by rw [hgz]; exact (lv_lt hB ht z).2 hz)
    rw [hgz, hva, show lvV f z = f.V z from if_pos hz] at h8
    exact ⟨h8.1, fun h => h8.2 (by omega)⟩
/-- the power ahead of the first period -/
theorem rprev_zero {s : Ram} {F : Nat → Cxt} {k : Int} (hs : rmOk s) (hS : rmS s) (hc : F 0 = nowC s) (hR : rmR s 0 (F 0) (F 1)) (hk : (F 1).in k) : rmPrev s (F 0) k s.now := by
  obtain ⟨-, n1, n2, n3⟩ := nowC_B hs hS
  obtain ⟨-, b, h2, h3, h4, -⟩ := hR.2.2.2 k hk
  have b1 := h2.1
  have b2 := h2.2
  rw [hc, n1] at b1
  rw [hc, n2] at b2
  obtain rfl : b = s.now := by omega
  refine ⟨h2, h3, h4, fun z hz _ _ => ?_⟩
  have z1 := hz.1
  have z2 := hz.2
  rw [hc, n1] at z1
  rw [hc, n2] at z2
  obtain rfl : z = s.now := by omega
  exact ⟨Int.le_refl _, fun h => absurd h (Int.lt_irrefl _)⟩
def clF (G : Nat → Nat → Int) : Nat → Nat → L := fun t _ => .sl 1 41 (c1 (G t))
end Go.Proofs.Ytkkkldhilofgmaa

namespace Go.Proofs.Ytkkkldhilofgmaa
open Go.RowKit

theorem LoopG.view {P : Program} {N : Nat} {c : Code} {S : AS} {K : Ex → AS → Prop} (t : Nat) {a a' : AV} (ht : fget S.fr t = a) (h : Le1 a a') (k : LoopG P N c ⟨(t, a') :: S.fr, S.obs⟩ K) : LoopG P N c S K :=
  ⟨fun w0 I0 σ I b w hd hN hr => k.sem w0 I0 σ I b w hd hN ⟨hr.same0, hr.st, fun t' => by
    have hf := hr.fr t'
    simp only [fget]
    by_cases hh : t = t'
    · subst hh
      rw [if_pos rfl]
      rw [ht] at hf
      exact h _ _ _ _ hf
    · rw [if_neg hh]; exact hf, hr.i1, hr.i2, hr.sz⟩⟩
set_option maxHeartbeats 4000000 in
theorem rmClimbs (s : Ram) (hs : rmOk s) (hS : rmS s) (hp : rmPl s) (hm : s.m ≤ 24) : Fn Try.prog 31 [.c (.sl 2 s.m (c2 s.lo s.hi)), intV s.now, intV s.up, intV s.dn, .c (.sl 1 s.m (c1 s.pl))] (fun obs r => obs = [] ∧ ∃ G, clCh s s.m G ∧ r = .c (.sl 1 (s.m + 1) (clF G))) := by
  refine fn_of_wpx (O := lex) tab_ok gamRI_ok mixed Try.func31 (by kernel_rfl) rfl rfl rfl (by simp [Try.ntmps31]) (by kernel_rfl) ?_
  have hnow := hs.2.1
  have hn40 := hS.1
  have hud := hs.2.2
  conv => whnf
  repeat' (first
    | (refine NilG.mk fun bn hbn hbx => ?_; conv => whnf)
    | (refine Both.mk ?_ ?_ <;> conv => whnf)
    | exact trivial
    | (refine Br.mk (fun hb => ?_) (fun hb => ?_) <;> (first | (exfalso; revert hb; decide) | ((try simp only [BL] at hb) <;> (try simp only [DL] at hb) <;> conv => whnf)))
    | (refine And.intro ?_ ?_; (focus (first | exact id | exact rfl | exact trivial | (intro hg; first | exact hg | exact rfl | (simp; done) | (simp at hg ⊢; assumption)) | omega | decide | exact is2_c _ _ _ | exact is1_c _ _ | exact isS_c _ _ | exact isB_c _ _ | exact Nat.le_refl _ | assumption | exact mulLe (by decide) (by omega) | exact mulLe2 (by decide) (by omega) (by omega) | (intros; simp only [BL] at *; omega) | (intros; (try simp only [BL] at *); (try simp only [DL] at *); omega) | (intros; simp only [BL] at *; rw [wr_id (by omega) (by omega)]; omega) | (intro h1 h2; exact Bool.and_eq_true_iff.2 ⟨h1, h2⟩) | (intros; simp_all; done))); conv => whnf)
    | (refine Or.inr (And.intro rfl ?_); first | (refine congrArg intV ?_) | (refine congrArg boolV ?_) | (refine tupII ?_ ?_) | (refine tupIII ?_ ?_ ?_) | (refine tupU ?_ ?_ ?_ ?_ ?_) | exact rfl))
  refine sem_loop tab_ok gamRI_ok mixed (by kernel_rfl) (O := lex) (fun i : Nat => ⟨[(0, .c (.sl 2 s.m (c2 s.lo s.hi))), (1, intV s.now), (2, intV s.up), (3, intV s.dn), (4, .c (.sl 1 s.m (c1 s.pl))), (11, .own 0), (22, intV 41), (23, intV i)], [.row 3 1 41 false (c1 fun k => if k < i then NV else 0)]⟩) (fun i => i ≤ 41) (fun i => 41 - i) ⟨0, [?_], Nat.zero_le _, ?_⟩ fun i hi => ?_
  rotate_left 1
  · refine Sub.of ?_ ?_ ?_
    repeat' (first | (refine And.intro ?_ ?_) | exact trivial | exact fun _ _ _ => hsc _ _ | (exact congrArg intV (by first | with_reducible rfl | with_reducible assumption)) | exact (rfl : AV.idsLt _ _ = true) | exact (rfl : _ = AV.ren _ (.own _)) | exact (rfl : _ = AV.ren _ (.fn _ _)) | exact (rfl : _ = AV.ren _ (.gh _)) | (exact congrArg intV (by assumption)) | (refine congrArg intV ((wr_id (by omega) (by omega)).trans (by omega))) | exact rfl | (simp only [Int.toNat_natCast, Int.toNat_zero, Nat.sub_zero, Nat.zero_add]; first | exact rfl | done) | exact all0 | exact fun h => Bool.noConfusion h | exact fun _ _ _ _ => rfl | omega)
    · intro a ha b hb9
      have hb9 : b < 1 := hb9
      match b, hb9 with
      | 0, _ => exact congrArg iL (if_neg (Nat.not_lt_zero a)).symm
  conv => whnf
  repeat' (first
    | (refine NilG.mk fun bn hbn hbx => ?_; conv => whnf)
    | (refine Both.mk ?_ ?_ <;> conv => whnf)
    | exact trivial
    | (refine Br.mk (fun hb => ?_) (fun hb => ?_) <;> (first | (exfalso; revert hb; decide) | ((try simp only [BL] at hb) <;> (try simp only [DL] at hb) <;> (first | (exfalso; omega) | (conv => whnf)))))
    | (refine And.intro ?_ ?_; (focus (first | exact id | exact rfl | exact trivial | (intro hg; first | exact hg | exact rfl | (simp; done) | (simp at hg ⊢; assumption)) | omega | decide | exact is2_c _ _ _ | exact is1_c _ _ | exact isS_c _ _ | exact isB_c _ _ | exact Nat.le_refl _ | assumption | exact mulLe (by decide) (by omega) | exact mulLe2 (by decide) (by omega) (by omega) | (intros; simp only [BL] at *; omega) | (intros; (try simp only [BL] at *); (try simp only [DL] at *); omega) | (intros; simp only [BL] at *; rw [wr_id (by omega) (by omega)]; omega) | (intro h1 h2; exact Bool.and_eq_true_iff.2 ⟨h1, h2⟩) | exact ⟨rfl, by omega, by decide⟩ | (intros; simp_all; done))); conv => whnf)
    | (refine Or.inr (And.intro rfl ?_); first | (refine congrArg intV ?_) | (refine congrArg boolV ?_) | (refine tupII ?_ ?_) | (refine tupIII ?_ ?_ ?_) | (refine tupU ?_ ?_ ?_ ?_ ?_) | exact rfl))
  · refine ⟨i + 1, [?_], by omega, by omega, ?_⟩
    rotate_left 1
    refine Sub.of ?_ ?_ ?_
    repeat' (first | (refine And.intro ?_ ?_) | exact trivial | exact fun _ _ _ => hsc _ _ | (exact congrArg intV (by first | with_reducible rfl | with_reducible assumption)) | exact (rfl : AV.idsLt _ _ = true) | exact (rfl : _ = AV.ren _ (.own _)) | exact (rfl : _ = AV.ren _ (.fn _ _)) | exact (rfl : _ = AV.ren _ (.gh _)) | (exact congrArg intV (by assumption)) | (refine congrArg intV ((wr_id (by omega) (by omega)).trans (by omega))) | exact rfl | (simp only [Int.toNat_natCast, Int.toNat_zero, Nat.sub_zero, Nat.zero_add]; first | exact rfl | done) | exact all0 | exact fun h => Bool.noConfusion h | exact fun _ _ _ _ => rfl | omega)
    intro a ha b hb9
    match b, hb9 with
    | 0, _ =>
      by_cases e : a = i
      · refine (if_pos e).trans ((if_pos ⟨Nat.zero_le _, Nat.zero_lt_one⟩).trans ?_)
        exact congrArg iL (if_pos (by omega)).symm
      · refine (if_neg e).trans (congrArg iL ?_)
        show (if a < i then NV else 0) = if a < i + 1 then NV else 0
        by_cases e2 : a < i
        · rw [if_pos e2, if_pos (by omega)]
        · rw [if_neg e2, if_neg (by omega)]
  obtain rfl : i = 41 := by omega
  have hrow : ∀ a, a < 41 → ∀ b, b < 1 → (if a = s.now.toNat then (if 0 ≤ b ∧ b < 0 + [iL 0].length then ([iL 0][b - 0]?).getD .un else c1 (fun k => if k < 41 then NV else 0) a b) else c1 (fun k => if k < 41 then NV else 0) a b) = c1 (fun k : Nat => if (k : Int) = s.now then 0 else NV) a b := fun a ha b hb9 => by
    match b, hb9 with
    | 0, _ =>
      by_cases e : a = s.now.toNat
      · refine (if_pos e).trans ((if_pos ⟨Nat.zero_le _, Nat.zero_lt_one⟩).trans (congrArg iL ?_))
        exact (if_pos (by omega)).symm
      · refine (if_neg e).trans (congrArg iL ?_)
        show (if a < 41 then NV else 0) = if (a : Int) = s.now then 0 else NV
        exact (if_pos ha).trans (if_neg (by omega)).symm
  refine LoopG.objs [.dead, .row 29 1 1 false (clF fun _ k => if (k : Int) = s.now then 0 else NV)] ⟨OLe.refl _, OLe.rowL fun k hk j hj => ?_, trivial⟩ ?_
  · match k, j, hk, hj with
    | 0, 0, _, _ => exact LLe.sl fun a ha b hb9 => LLe.of_eq (hrow a ha b hb9)
  refine LoopG.view 11 rfl (Le1.sl (g := c1 fun k : Nat => if (k : Int) = s.now then 0 else NV) hrow) ?_
  refine sem_loop tab_ok gamRI_ok mixed (by kernel_rfl) (O := lex) (fun x : Nat × (Nat → Nat → Int) => ⟨[(2, intV s.up), (3, intV s.dn), (4, .c (.sl 1 s.m (c1 s.pl))), (11, .c (.sl 1 41 (c1 (x.2 x.1)))), (13, .own 0), (35, .c (.sl 2 s.m (c2 s.lo s.hi))), (36, intV s.m), (37, intV x.1)], [.row 29 1 (x.1 + 1) false (clF x.2)]⟩) (fun x => x.1 ≤ s.m ∧ clCh s x.1 x.2) (fun x => s.m - x.1) ⟨(0, fun _ k => if (k : Int) = s.now then 0 else NV), [?_], ⟨Nat.zero_le _, fun k hk => rfl, fun u hu => absurd hu (Nat.not_lt_zero u)⟩, ?_⟩ fun y hy => ?_
  rotate_left 1
  · refine Sub.of ?_ ?_ ?_
    repeat' (first | (refine And.intro ?_ ?_) | exact trivial | exact fun _ _ _ => hsc _ _ | (exact congrArg intV (by first | with_reducible rfl | with_reducible assumption)) | exact (rfl : AV.idsLt _ _ = true) | exact (rfl : _ = AV.ren _ (.own _)) | exact (rfl : _ = AV.ren _ (.fn _ _)) | exact (rfl : _ = AV.ren _ (.gh _)) | (exact congrArg intV (by assumption)) | (refine congrArg intV ((wr_id (by omega) (by omega)).trans (by omega))) | exact rfl | (simp only [Int.toNat_natCast, Int.toNat_zero, Nat.sub_zero, Nat.zero_add]; first | exact rfl | done) | exact all0 | exact fun h => Bool.noConfusion h | exact fun _ _ _ _ => rfl | omega)
  obtain ⟨t, G⟩ := y
  obtain ⟨ht, hG⟩ := hy
  dsimp only at ht hG ⊢
  conv => whnf
  repeat' (first
    | (refine NilG.mk fun bn hbn hbx => ?_; conv => whnf)
    | (refine Both.mk ?_ ?_ <;> conv => whnf)
    | exact trivial
    | (refine Br.mk (fun hb => ?_) (fun hb => ?_) <;> (first | (exfalso; revert hb; decide) | ((try simp only [BL] at hb) <;> (try simp only [DL] at hb) <;> (first | (exfalso; omega) | (conv => whnf)))))
    | (refine And.intro ?_ ?_; (focus (first | exact id | exact rfl | exact trivial | (intro hg; first | exact hg | exact rfl | (simp; done) | (simp at hg ⊢; assumption)) | omega | decide | exact is2_c _ _ _ | exact is1_c _ _ | exact isS_c _ _ | exact isB_c _ _ | exact Nat.le_refl _ | assumption | exact mulLe (by decide) (by omega) | exact mulLe2 (by decide) (by omega) (by omega) | (intros; simp only [BL] at *; omega) | (intros; (try simp only [BL] at *); (try simp only [DL] at *); omega) | (intros; simp only [BL] at *; rw [wr_id (by omega) (by omega)]; omega) | (intro h1 h2; exact Bool.and_eq_true_iff.2 ⟨h1, h2⟩) | first | exact ⟨rfl, by omega, by decide⟩ | (intros; simp_all; done))); conv => whnf)
    | (refine Or.inr (And.intro rfl ?_); first | (refine congrArg intV ?_) | (refine congrArg boolV ?_) | (refine tupII ?_ ?_) | (refine tupIII ?_ ?_ ?_) | (refine tupU ?_ ?_ ?_ ?_ ?_) | exact rfl))
  rotate_left
  · obtain rfl : t = s.m := by omega
    exact .inr ⟨rfl, G, hG, rfl⟩
  have htm : t < s.m := by omega
  have hB := cl_B hS hp ht hG t (Nat.le_refl t)
  have hpl := hp t htm
  have hsm := hS.2 t htm
  have hlm := hs.1 t htm
  refine sem_loop tab_ok gamRI_ok mixed (by kernel_rfl) (O := lex) (fun x : Nat × (Nat → Int) => ⟨[(2, intV s.up), (3, intV s.dn), (4, .c (.sl 1 s.m (c1 s.pl))), (11, .c (.sl 1 41 (c1 (G t)))), (13, .own 0), (14, intV t), (15, .lp 1 0), (16, .own 2), (35, .c (.sl 2 s.m (c2 s.lo s.hi))), (36, intV s.m), (37, intV t), (44, intV 41), (45, intV x.1)], [.row 29 1 (t + 1) false (clF G), .box [intV (s.lo t), intV (s.hi t)], .row 3 1 41 false (c1 fun k => if k < x.1 then x.2 k else 0)]⟩) (fun x => x.1 ≤ 41 ∧ ∀ k : Nat, k < x.1 → clI s t (G t) k 41 (x.2 k)) (fun x => 41 - x.1) ⟨(0, fun _ => 0), [?_, ?_, ?_], ⟨Nat.zero_le _, fun k hk => absurd hk (Nat.not_lt_zero k)⟩, ?_⟩ fun y hy => ?_
  rotate_left 3
  · refine Sub.of ?_ ?_ ?_
    repeat' (first | (refine And.intro ?_ ?_) | exact trivial | exact fun _ _ _ => hsc _ _ | (exact congrArg intV (by first | with_reducible rfl | with_reducible assumption)) | exact (rfl : AV.idsLt _ _ = true) | exact (rfl : _ = AV.ren _ (.own _)) | exact (rfl : _ = AV.ren _ (.fn _ _)) | exact (rfl : _ = AV.ren _ (.gh _)) | (exact congrArg intV (by assumption)) | (refine congrArg intV ((wr_id (by omega) (by omega)).trans (by omega))) | exact rfl | (simp only [Int.toNat_natCast, Int.toNat_zero, Nat.sub_zero, Nat.zero_add]; first | exact rfl | done) | exact all0 | exact fun h => Bool.noConfusion h | exact fun _ _ _ _ => rfl | omega)
    · intro a ha b hb9
      have hb9 : b < 1 := hb9
      match b, hb9 with
      | 0, _ => exact congrArg iL (if_neg (Nat.not_lt_zero a)).symm
  obtain ⟨i, H⟩ := y
  obtain ⟨hi, hH⟩ := hy
  dsimp only at hi hH ⊢
  conv => whnf
  repeat' (first
    | (refine NilG.mk fun bn hbn hbx => ?_; conv => whnf)
    | (refine Both.mk ?_ ?_ <;> conv => whnf)
    | exact trivial
    | (refine Br.mk (fun hb => ?_) (fun hb => ?_) <;> (first | (exfalso; revert hb; decide) | ((try simp only [BL] at hb) <;> (try simp only [DL] at hb) <;> (first | (exfalso; omega) | (conv => whnf)))))
    | (refine And.intro ?_ ?_; (focus (first | exact id | exact rfl | exact trivial | (intro hg; first | exact hg | exact rfl | (simp; done) | (simp at hg ⊢; assumption)) | omega | decide | exact is2_c _ _ _ | exact is1_c _ _ | exact isS_c _ _ | exact isB_c _ _ | exact Nat.le_refl _ | assumption | exact mulLe (by decide) (by omega) | exact mulLe2 (by decide) (by omega) (by omega) | (intros; simp only [BL] at *; omega) | (intros; (try simp only [BL] at *); (try simp only [DL] at *); omega) | (intros; simp only [BL] at *; rw [wr_id (by omega) (by omega)]; omega) | (intro h1 h2; exact Bool.and_eq_true_iff.2 ⟨h1, h2⟩) | first | exact ⟨rfl, by omega, by decide⟩ | (intros; simp_all; done))); conv => whnf)
    | (refine Or.inr (And.intro rfl ?_); first | (refine congrArg intV ?_) | (refine congrArg boolV ?_) | (refine tupII ?_ ?_) | (refine tupIII ?_ ?_ ?_) | (refine tupU ?_ ?_ ?_ ?_ ?_) | exact rfl))
  rotate_left
  · obtain rfl : i = 41 := by omega
    have e37 : IntKind.i64.wrap ((t : Int) + 1) = ((t + 1 : Nat) : Int) := (wr_id (by omega) (by omega)).trans (by omega)
    have k1 : ∀ u, u < t + 1 → (if u < t + 1 then G u else fun k => if k < 41 then H k else 0) = G u := fun u hu => if_pos hu
    have k2 : (if t + 1 < t + 1 then G (t + 1) else fun k => if k < 41 then H k else 0) = fun k => if k < 41 then H k else 0 := if_neg (Nat.lt_irrefl _)
    have hN : clCh s (t + 1) (fun u => if u < t + 1 then G u else fun k => if k < 41 then H k else 0) := by
      refine ⟨fun k hk => (congrFun (k1 0 (by omega)) k).trans (hG.1 k hk), fun u hu k hk => ?_⟩
      show clI s u (if u < t + 1 then G u else fun k => if k < 41 then H k else 0) k 41 ((if u + 1 < t + 1 then G (u + 1) else fun k => if k < 41 then H k else 0) k)
      rw [k1 u hu]
      by_cases e : u = t
      · subst e
        rw [k2]
        show clI s u (G u) k 41 (if k < 41 then H k else 0)
        rw [if_pos hk]
        exact hH k hk
      · rw [k1 (u + 1) (by omega)]
        exact hG.2 u (by omega) k hk
    refine ⟨(t + 1, fun u => if u < t + 1 then G u else fun k => if k < 41 then H k else 0), [?_], ⟨by show t + 1 ≤ s.m; omega, hN⟩, by show s.m - (t + 1) < s.m - t; omega, ?_⟩
    rotate_left 1
    refine Sub.of ?_ ?_ ?_
    repeat' (first | (exact congrArg (fun g => AV.c (.sl 1 41 (c1 g))) k2.symm) | (refine And.intro ?_ ?_) | exact trivial | exact fun _ _ _ => hsc _ _ | (exact congrArg intV (by first | with_reducible rfl | with_reducible assumption)) | exact (rfl : AV.idsLt _ _ = true) | exact (rfl : _ = AV.ren _ (.own _)) | exact (rfl : _ = AV.ren _ (.fn _ _)) | exact (rfl : _ = AV.ren _ (.gh _)) | (exact congrArg intV (by assumption)) | (refine congrArg intV ((wr_id (by omega) (by omega)).trans (by omega))) | exact rfl | (simp only [Int.toNat_natCast, Int.toNat_zero, Nat.sub_zero, Nat.zero_add]; first | exact rfl | done) | exact all0 | exact fun h => Bool.noConfusion h | exact fun _ _ _ _ => rfl | omega)
    intro a ha b hb9
    have hb9 : b < 1 := hb9
    match b, hb9 with
    | 0, _ =>
      by_cases e : a < t + 1
      · refine (if_pos e).trans ?_
        show L.sl 1 41 (c1 (G a)) = L.sl 1 41 (c1 (if a < t + 1 then G a else fun k => if k < 41 then H k else 0))
        rw [if_pos e]
      · obtain rfl : a = t + 1 := by omega
        refine (if_neg e).trans ?_
        rw [Nat.sub_self]
        show L.sl 1 41 (c1 fun k => if k < 41 then H k else 0) = L.sl 1 41 (c1 (if t + 1 < t + 1 then G (t + 1) else fun k => if k < 41 then H k else 0))
        rw [if_neg e]
  refine sem_loop tab_ok gamRI_ok mixed (by kernel_rfl) (O := lex) (fun x : Nat × Int => ⟨[(2, intV s.up), (3, intV s.dn), (4, .c (.sl 1 s.m (c1 s.pl))), (11, .c (.sl 1 41 (c1 (G t)))), (13, .own 0), (14, intV t), (15, .lp 1 0), (16, .own 2), (17, intV i), (35, .c (.sl 2 s.m (c2 s.lo s.hi))), (36, intV s.m), (37, intV t), (44, intV 41), (45, intV i), (51, .c (.sl 1 41 (c1 (G t)))), (52, intV 41), (53, intV x.1)], [.row 29 1 (t + 1) false (clF G), .box [intV (s.lo t), intV (s.hi t)], .row 3 1 41 false (c1 fun k => if k < i then H k else if k = i then x.2 else 0)]⟩) (fun x => x.1 ≤ 41 ∧ clI s t (G t) i x.1 x.2) (fun x => 41 - x.1) ⟨(0, NV), [?_, ?_, ?_], ⟨Nat.zero_le _, clI_zero _ _ _ _⟩, ?_⟩ fun z hz => ?_
  rotate_left 3
  · refine Sub.of ?_ ?_ ?_
    repeat' (first | (refine And.intro ?_ ?_) | exact trivial | exact fun _ _ _ => hsc _ _ | (exact congrArg intV (by first | with_reducible rfl | with_reducible assumption)) | exact (rfl : AV.idsLt _ _ = true) | exact (rfl : _ = AV.ren _ (.own _)) | exact (rfl : _ = AV.ren _ (.fn _ _)) | exact (rfl : _ = AV.ren _ (.gh _)) | (exact congrArg intV (by assumption)) | (refine congrArg intV ((wr_id (by omega) (by omega)).trans (by omega))) | exact rfl | (simp only [Int.toNat_natCast, Int.toNat_zero, Nat.sub_zero, Nat.zero_add]; first | exact rfl | done) | exact all0 | exact fun h => Bool.noConfusion h | exact fun _ _ _ _ => rfl | omega)
    · intro a ha b hb9
      match b, hb9 with
      | 0, _ =>
        by_cases e : a = i
        · refine (if_pos e).trans ((if_pos ⟨Nat.zero_le _, Nat.zero_lt_one⟩).trans (congrArg iL ?_))
          show NV = if a < i then H a else if a = i then NV else 0
          rw [if_neg (by omega), if_pos e]
        · refine (if_neg e).trans (congrArg iL ?_)
          show (if a < i then H a else 0) = if a < i then H a else if a = i then NV else 0
          by_cases e2 : a < i
          · rw [if_pos e2, if_pos e2]
          · rw [if_neg e2, if_neg e2, if_neg e]
  obtain ⟨z, A⟩ := z
  obtain ⟨hz1, hz2⟩ := hz
  dsimp only at hz1 hz2 ⊢
  have wI : IntKind.i64.wrap ((i : Int) - z) = (i : Int) - z := wr_id (by omega) (by omega)
  have wD : IntKind.i64.wrap (0 - s.dn) = -s.dn := (wr_id (by omega) (by omega)).trans (by omega)
  conv => whnf
  repeat' (first
    | (refine NilG.mk fun bn hbn hbx => ?_; conv => whnf)
    | (refine Both.mk ?_ ?_ <;> conv => whnf)
    | exact trivial
    | (refine Br.mk (fun hb => ?_) (fun hb => ?_) <;> (first | (exfalso; revert hb; decide) | ((try simp only [BL] at hb) <;> (try simp only [DL] at hb) <;> (first | (exfalso; omega) | (conv => whnf)))))
    | (refine And.intro ?_ ?_; (focus (first | exact id | exact rfl | exact trivial | (intro hg; first | exact hg | exact rfl | (simp; done) | (simp at hg ⊢; assumption)) | omega | decide | exact is2_c _ _ _ | exact is1_c _ _ | exact isS_c _ _ | exact isB_c _ _ | exact Nat.le_refl _ | assumption | exact mulLe (by decide) (by omega) | exact mulLe2 (by decide) (by omega) (by omega) | (intros; simp only [BL] at *; omega) | (intros; (try simp only [BL] at *); (try simp only [DL] at *); omega) | (intros; simp only [BL] at *; rw [wr_id (by omega) (by omega)]; omega) | (intro h1 h2; exact Bool.and_eq_true_iff.2 ⟨h1, h2⟩) | first | exact ⟨rfl, by omega, by decide⟩ | (simp only [inB, BL] at *; omega) | (intros; simp_all; done))); conv => whnf)
    | (refine Or.inr (And.intro rfl ?_); first | (refine congrArg intV ?_) | (refine congrArg boolV ?_) | (refine tupII ?_ ?_) | (refine tupIII ?_ ?_ ?_) | (refine tupU ?_ ?_ ?_ ?_ ?_) | exact rfl))
  · rw [wI, wD] at hb
    have hzB := hB z (by omega)
    have hcn : cnd s t i (z : Nat) := by
      unfold cnd
      omega
    have hlt : G t z < NV := by
      have h9 : ((z : Int)).toNat = z := by omega
      have h8 := hb.1.1
      first | exact h8 | (rw [h9] at h8; exact h8)
    have h40 : G t z ≤ 40 * (t : Int) := by
      rcases hzB.2 with e | e
      · unfold NV at *; omega
      · exact e
    have w1 : IntKind.i64.wrap ((i : Int) - s.pl t) = (i : Int) - s.pl t := wr_id (by omega) (by omega)
    have w2 : IntKind.i64.wrap (s.pl t - (i : Int)) = s.pl t - (i : Int) := wr_id (by omega) (by omega)
    have e53 : IntKind.i64.wrap ((z : Int) + 1) = ((z + 1 : Nat) : Int) := (wr_id (by omega) (by omega)).trans (by omega)
    have e9 : IntKind.i64.wrap (G t ((z : Int)).toNat + max (IntKind.i64.wrap ((i : Int) - s.pl ((t : Int)).toNat)) (IntKind.i64.wrap (s.pl ((t : Int)).toNat - (i : Int)))) = G t z + dis i (s.pl t) := by
      rw [show ((z : Int)).toNat = z by omega, show ((t : Int)).toNat = t by omega, w1, w2]
      unfold dis
      exact wr_id (by omega) (by omega)
    refine ⟨(z + 1, min A (G t z + dis i (s.pl t))), [?_, ?_, ?_], ⟨by show z + 1 ≤ 41; omega, clI_yes hz2 hlt hcn⟩, by show 41 - (z + 1) < 41 - z; omega, ?_⟩
    rotate_left 3
    refine Sub.of ?_ ?_ ?_
    repeat' (first | (refine And.intro ?_ ?_) | exact trivial | exact fun _ _ _ => hsc _ _ | (exact congrArg intV (by first | with_reducible rfl | with_reducible assumption)) | exact (rfl : AV.idsLt _ _ = true) | exact (rfl : _ = AV.ren _ (.own _)) | exact (rfl : _ = AV.ren _ (.fn _ _)) | exact (rfl : _ = AV.ren _ (.gh _)) | (exact congrArg intV (by assumption)) | (refine congrArg intV ((wr_id (by omega) (by omega)).trans (by omega))) | exact rfl | (simp only [Int.toNat_natCast, Int.toNat_zero, Nat.sub_zero, Nat.zero_add]; first | exact rfl | done) | exact all0 | exact fun h => Bool.noConfusion h | exact fun _ _ _ _ => rfl | omega)
    intro a ha b hb9
    match b, hb9 with
    | 0, _ =>
      by_cases e : a = i
      · refine (if_pos e).trans ((if_pos ⟨Nat.zero_le _, Nat.zero_lt_one⟩).trans (congrArg iL ?_))
        show min (if i < i then H i else if i = i then A else 0) (IntKind.i64.wrap (G t ((z : Int)).toNat + max (IntKind.i64.wrap ((i : Int) - s.pl ((t : Int)).toNat)) (IntKind.i64.wrap (s.pl ((t : Int)).toNat - (i : Int))))) = if a < i then H a else if a = i then min A (G t z + dis i (s.pl t)) else 0
        rw [e9, if_neg (Nat.lt_irrefl i), if_pos rfl, if_neg (by omega), if_pos e]
      · refine (if_neg e).trans (congrArg iL ?_)
        show (if a < i then H a else if a = i then A else 0) = if a < i then H a else if a = i then min A (G t z + dis i (s.pl t)) else 0
        rw [if_neg e, if_neg e]
  · rw [wI, wD] at hb
    have hn : ¬ (G t z < NV ∧ cnd s t i (z : Nat)) := fun h => by
      have h1 := h.1
      have h2 := h.2
      unfold cnd at h2
      unfold NV at h1
      omega
    have e53 : IntKind.i64.wrap ((z : Int) + 1) = ((z + 1 : Nat) : Int) := (wr_id (by omega) (by omega)).trans (by omega)
    refine ⟨(z + 1, A), [?_, ?_, ?_], ⟨by show z + 1 ≤ 41; omega, clI_no hz2 hn⟩, by show 41 - (z + 1) < 41 - z; omega, ?_⟩
    rotate_left 3
    refine Sub.of ?_ ?_ ?_
    repeat' (first | (refine And.intro ?_ ?_) | exact trivial | exact fun _ _ _ => hsc _ _ | (exact congrArg intV (by first | with_reducible rfl | with_reducible assumption)) | exact (rfl : AV.idsLt _ _ = true) | exact (rfl : _ = AV.ren _ (.own _)) | exact (rfl : _ = AV.ren _ (.fn _ _)) | exact (rfl : _ = AV.ren _ (.gh _)) | (exact congrArg intV (by assumption)) | (refine congrArg intV ((wr_id (by omega) (by omega)).trans (by omega))) | exact rfl | (simp only [Int.toNat_natCast, Int.toNat_zero, Nat.sub_zero, Nat.zero_add]; first | exact rfl | done) | exact all0 | exact fun h => Bool.noConfusion h | exact fun _ _ _ _ => rfl | omega)
  · obtain rfl : z = 41 := by omega
    have e45 : IntKind.i64.wrap ((i : Int) + 1) = ((i + 1 : Nat) : Int) := (wr_id (by omega) (by omega)).trans (by omega)
    have hN : ∀ k : Nat, k < i + 1 → clI s t (G t) k 41 (if k < i then H k else A) := fun k hk => by
      by_cases e : k < i
      · rw [if_pos e]; exact hH k e
      · rw [if_neg e, show k = i by omega]; exact hz2
    refine ⟨(i + 1, fun k => if k < i then H k else A), [?_, ?_, ?_], ⟨by show i + 1 ≤ 41; omega, hN⟩, by show 41 - (i + 1) < 41 - i; omega, ?_⟩
    rotate_left 3
    refine Sub.of ?_ ?_ ?_
    repeat' (first | (refine And.intro ?_ ?_) | exact trivial | exact fun _ _ _ => hsc _ _ | (exact congrArg intV (by first | with_reducible rfl | with_reducible assumption)) | exact (rfl : AV.idsLt _ _ = true) | exact (rfl : _ = AV.ren _ (.own _)) | exact (rfl : _ = AV.ren _ (.fn _ _)) | exact (rfl : _ = AV.ren _ (.gh _)) | (exact congrArg intV (by assumption)) | (refine congrArg intV ((wr_id (by omega) (by omega)).trans (by omega))) | exact rfl | (simp only [Int.toNat_natCast, Int.toNat_zero, Nat.sub_zero, Nat.zero_add]; first | exact rfl | done) | exact all0 | exact fun h => Bool.noConfusion h | exact fun _ _ _ _ => rfl | omega)
    intro a ha b hb9
    match b, hb9 with
    | 0, _ =>
      refine congrArg iL ?_
      show (if a < i then H a else if a = i then A else 0) = if a < i + 1 then (if a < i then H a else A) else 0
      by_cases e : a < i
      · rw [if_pos e, if_pos (by omega), if_pos e]
      · by_cases e2 : a = i
        · rw [if_neg e, if_pos e2, if_pos (by omega), if_neg e]
        · rw [if_neg e, if_neg e2, if_neg (by omega)]
end Go.Proofs.Ytkkkldhilofgmaa
