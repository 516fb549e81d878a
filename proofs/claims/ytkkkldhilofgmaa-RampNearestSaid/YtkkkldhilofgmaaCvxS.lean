/-
  Add and Convolve: what the law needs of them.
-/
import Derived.Test.YtkkkldhilofgmaaCvxA
import Derived.Test.YtkkkldhilofgmaaCvxM
namespace Go.Proofs.Ytkkkldhilofgmaa
open Go.RowKit

theorem csTup {bs' bs : List AV} (h : Le bs' bs) : Le1 (.tup bs') (.tup bs) := fun σ I w v hd => by
  simp only [Den] at hd ⊢
  obtain ⟨us, e, h1⟩ := hd
  exact ⟨us, e, h _ _ _ _ h1⟩
theorem csNil {sz : Nat} {f : Nat → Nat → L} : Le1 (.c (.v (.slice none 0 0))) (.c (.sl sz 0 f)) := fun σ I w v hd => by
  simp only [Den, L.rd] at hd ⊢
  obtain ⟨rfl, _⟩ := hd
  exact ⟨none, 0, rfl, Nat.le_refl _, Nat.zero_le _, fun h => absurd h (Nat.lt_irrefl 0)⟩
theorem csNul : Le1 nulV (cxV 0 0 0 (fun _ => 0) (fun _ => 0)) := Le1.agg (Le.cons (Le1.refl _) (Le.cons (Le1.refl _) (Le.cons csNil Le.nil)))

/-- a function and an error: what F says of them -/
def fnF (F : Int → Int → Int → Nat → (Nat → Int) → (Nat → Int) → Prop) (obs : List OB) (r : AV) : Prop :=
  obs = [] ∧ ∃ e lo v n p q, r = .tup [cxV lo v n p q, intV e] ∧ F e lo v n p q
/-- what is made has the values of the pieces -/
def mdF (lo0 v0 : Int) (T : Int) (W : Nat → Int) (e lo v : Int) (n : Nat) (p q : Nat → Int) : Prop :=
  e = 2 ∨ e = 0 ∧ okCx lo v n p q ∧ lo = lo0 ∧ (cxT n p : Int) = T ∧ ∀ m : Nat, (m : Int) ≤ T → cW v n p q m = W m
theorem madeF {lo0 v0 : Int} {k : Nat} {P Q : Nat → Int} {obs : List OB} {r : AV} (hp : ∀ i, i < k → 1 ≤ P i) (h : madeJ lo0 v0 k P Q obs r) :
    ∃ r', fnF (mdF lo0 v0 (S P k) (cW v0 k P Q)) obs r' ∧ Le1 r r' := by
  obtain ⟨h1, ⟨h2, rfl⟩ | ⟨h2, rfl⟩⟩ := h
  · have h3 := cxE_zero h2
    have hpos := S_mono (p := P) (i := 0) (j := k) (fun i hi => by have := hp i hi; omega) (Nat.zero_le _)
    have hz : S P 0 = 0 := rfl
    refine ⟨_, ⟨h1, 0, _, _, _, _, _, rfl, .inr ⟨rfl, h3, rfl, ?_, fun m hm => ?_⟩⟩, Le1.refl _⟩
    · unfold cxT
      rw [jP_sum]
      omega
    · unfold cW
      rw [j_val (m : Int) (fun i hi => by have := hp i hi; omega)]
  · exact ⟨_, ⟨h1, 2, _, _, _, _, _, rfl, .inl rfl⟩, csTup (Le.cons csNul (Le.cons (Le1.refl _) Le.nil))⟩

/-- what Add's results are -/
def adF (lo v : Int) (n : Nat) (p q : Nat → Int) (lo' v' : Int) (n' : Nat) (p' q' : Nat → Int) (e lo0 v0 : Int) (n0 : Nat) (p0 q0 : Nat → Int) : Prop :=
  (cx2E lo v n p q lo' v' n' p' q' ≠ 0 → e = cx2E lo v n p q lo' v' n' p' q' ∧ n0 = 0) ∧
  (cx2E lo v n p q lo' v' n' p' q' = 0 → (max lo lo' > min (lo + S p n) (lo' + S p' n') → e = 8) ∧
    (¬ max lo lo' > min (lo + S p n) (lo' + S p' n') → ∃ v1, mdF (max lo lo') v1 (min (lo + S p n) (lo' + S p' n') - max lo lo') (fun m => cW v n p q ((max lo lo' - lo).toNat + m) + cW v' n' p' q' ((max lo lo' - lo').toNat + m)) e lo0 v0 n0 p0 q0))
theorem addR (lo v : Int) (n : Nat) (p q : Nat → Int) (lo' v' : Int) (n' : Nat) (p' q' : Nat → Int) (hn : n ≤ maxLen) (hn' : n' ≤ maxLen) : Fn Try.prog 17 [cxV lo v n p q, cxV lo' v' n' p' q'] (fnF (adF lo v n p q lo' v' n' p' q')) :=
  (cxAdd lo v n p q lo' v' n' p' q' hn hn').res fun obs r ⟨h1, h2⟩ => by
    rcases h2 with ⟨h2, rfl⟩ | ⟨h2, h3, rfl⟩ | ⟨h2, h3, K, V, P, Q, hs, hm⟩
    · exact ⟨_, ⟨h1, _, _, _, _, _, _, rfl, fun _ => ⟨rfl, rfl⟩, fun h => absurd h h2⟩, csTup (Le.cons csNul (Le.cons (Le1.refl _) Le.nil))⟩
    · exact ⟨_, ⟨h1, _, _, _, _, _, _, rfl, fun h => absurd h2 h, fun _ => ⟨fun _ => rfl, fun h => absurd h3 h⟩⟩, csTup (Le.cons csNul (Le.cons (Le1.refl _) Le.nil))⟩
    · obtain ⟨r', ⟨g1, e, l0, w0, m0, a0, b0, rfl, g2⟩, g3⟩ := madeF (fun i hi => (hs.1 i hi).1) hm
      refine ⟨_, ⟨h1, e, l0, w0, m0, a0, b0, rfl, fun h => absurd h2 h, fun _ => ⟨fun h => absurd h h3, fun _ => ⟨V, ?_⟩⟩⟩, g3⟩
      rcases g2 with g2 | ⟨g2, g4, g5, g6, g7⟩
      · exact .inl g2
      · refine .inr ⟨g2, g4, g5, g6.trans hs.2.2.1, fun m hm' => ?_⟩
        have e1 := hs.2.2.1
        rw [g7 m (by omega), hs.2.2.2 m (by omega)]

/-- what Convolve's results are -/
def cvF (lo v : Int) (n : Nat) (p q : Nat → Int) (lo' v' : Int) (n' : Nat) (p' q' : Nat → Int) (e lo0 v0 : Int) (n0 : Nat) (p0 q0 : Nat → Int) : Prop :=
  (cx2E lo v n p q lo' v' n' p' q' ≠ 0 → e = cx2E lo v n p q lo' v' n' p' q' ∧ n0 = 0) ∧
  (cx2E lo v n p q lo' v' n' p' q' = 0 → ∃ v1 W, mdF (lo + lo') v1 (S p n + S p' n') W e lo0 v0 n0 p0 q0 ∧
    ∀ T : Nat, (T : Int) ≤ S p n + S p' n' → (∀ i j : Nat, (i : Int) ≤ S p n → (j : Int) ≤ S p' n' → i + j = T → W T ≤ cW v n p q i + cW v' n' p' q' j) ∧
      ∃ i j : Nat, (i : Int) ≤ S p n ∧ (j : Int) ≤ S p' n' ∧ i + j = T ∧ W T = cW v n p q i + cW v' n' p' q' j)
theorem convR (lo v : Int) (n : Nat) (p q : Nat → Int) (lo' v' : Int) (n' : Nat) (p' q' : Nat → Int) (hn : n ≤ maxLen) (hn' : n' ≤ maxLen) : Fn Try.prog 18 [cxV lo v n p q, cxV lo' v' n' p' q'] (fnF (cvF lo v n p q lo' v' n' p' q')) :=
  (cxConvolve lo v n p q lo' v' n' p' q' hn hn').res fun obs r ⟨h1, h2⟩ => by
    rcases h2 with ⟨h2, rfl⟩ | ⟨h2, π, hπ, hm⟩
    · exact ⟨_, ⟨h1, _, _, _, _, _, _, rfl, fun _ => ⟨rfl, rfl⟩, fun h => absurd h h2⟩, csTup (Le.cons csNul (Le.cons (Le1.refl _) Le.nil))⟩
    · have hE : okCx lo v n p q ∧ okCx lo' v' n' p' q' := by
        have h0 := h2
        unfold cx2E at h0
        split at h0
        · rename_i h; exact absurd h0 h
        · rename_i h; exact ⟨cxE_zero (by simpa using h), cxE_zero h0⟩
      have hT : Two n n' p q p' q' := ⟨hE.1.pos, hE.2.pos, fun j hj => Int.le_of_lt (hE.1.2.2.2.2.2.2.1 j hj), fun j hj => Int.le_of_lt (hE.2.2.2.2.2.2.2.1 j hj)⟩
      have hpos : ∀ i, i < n + n' → 1 ≤ cat n p p' (π i) := fun i hi => by
        have h9 := hπ.lt hi
        unfold cat
        split
        · rename_i h; exact hE.1.pos _ h
        · exact hE.2.pos _ (by omega)
      have hsum : S (fun z => cat n p p' (π z)) (n + n') = S p n + S p' n' := by
        rw [hπ.sum (cat n p p'), S_add]
        congr 1
        · exact S_congr fun k hk => if_pos hk
        · exact S_congr fun k _ => by
            unfold cat
            rw [if_neg (by omega), Nat.add_sub_cancel_left]
      obtain ⟨r', ⟨g1, e, l0, w0, m0, a0, b0, rfl, g2⟩, g3⟩ := madeF hpos hm
      rw [hsum] at g2
      refine ⟨_, ⟨h1, e, l0, w0, m0, a0, b0, rfl, fun h => absurd h2 h, fun _ => ⟨v + v', _, g2, fun T hT' => ⟨fun i j hi hj hij => ?_, ?_⟩⟩⟩, g3⟩
      · have := hT.least hπ (i := (i : Int)) (j := (j : Int)) (T := (T : Int)) ⟨by omega, hi⟩ ⟨by omega, hj⟩ (by omega)
        unfold cW
        omega
      · obtain ⟨i, j, hi, hj, hij, hv⟩ := hT.have' hπ (T := (T : Int)) ⟨by omega, hT'⟩
        obtain ⟨i, rfl⟩ := Int.eq_ofNat_of_zero_le hi.1
        obtain ⟨j, rfl⟩ := Int.eq_ofNat_of_zero_le hj.1
        refine ⟨i, j, hi.2, hj.2, by omega, ?_⟩
        unfold cW
        omega
end Go.Proofs.Ytkkkldhilofgmaa
