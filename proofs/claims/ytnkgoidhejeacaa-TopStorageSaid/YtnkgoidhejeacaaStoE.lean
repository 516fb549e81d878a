/-
  Storages: the chain of costs is one; the known example of Best.
-/
import Derived.Test.YtnkgoidhejeacaaStoV
namespace Go.Proofs.Ytnkgoidhejeacaa
open Go.RowKit

/-- the chain of costs is one -/
theorem ch_eq {s : Sto} {m : Nat} {pr : Nat → Int} {F F' : Nat → Cxt} (h : stCh s m pr F) (h' : stCh s m pr F') : ∀ t, t ≤ m → (F t).lo = (F' t).lo ∧ (F t).hi = (F' t).hi ∧ ∀ k, (F t).in k → (F t).V k = (F' t).V k
  | 0, _ => by rw [h.1, h'.1]; exact ⟨rfl, rfl, fun _ _ => rfl⟩
  | t + 1, ht => by
    obtain ⟨e1, e2, e3⟩ := ch_eq h h' t (by omega)
    obtain ⟨-, a2, a3, -, a5⟩ := h.2.1 t (by omega)
    obtain ⟨-, b2, b3, -, b5⟩ := h'.2.1 t (by omega)
    have g1 : (F (t + 1)).lo = (F' (t + 1)).lo := by rw [a2, b2, e1]
    have g2 : (F (t + 1)).hi = (F' (t + 1)).hi := by rw [a3, b3, e2]
    refine ⟨g1, g2, fun k hk => ?_⟩
    have hk' : (F' (t + 1)).in k := ⟨by rw [← g1]; exact hk.1, by rw [← g2]; exact hk.2⟩
    have hin : ∀ b, (F t).in b → (F' t).in b := fun b hb => ⟨by rw [← e1]; exact hb.1, by rw [← e2]; exact hb.2⟩
    have hin' : ∀ b, (F' t).in b → (F t).in b := fun b hb => ⟨by rw [e1]; exact hb.1, by rw [e2]; exact hb.2⟩
    obtain ⟨c1, b, c2, c3, c4, c5⟩ := a5 k hk
    obtain ⟨d1, b', d2, d3, d4, d5⟩ := b5 k hk'
    have x1 := c1 b' (hin' _ d2) d3 d4
    have x2 := d1 b (hin _ c2) c3 c4
    rw [e3 b' (hin' _ d2)] at x1
    rw [← e3 b c2] at x2
    omega
/-- the level before costs what is left -/
theorem lv_eq {s : Sto} {pr : Int} {f g : Cxt} {b k : Int} (hR : stR s pr f g) (hk : g.in k) (hl : stLast s pr f b k) : g.V k = f.V b + pr * (k - b) := by
  obtain ⟨h1, b', h2, h3, h4, h5⟩ := hR.2.2.2.2 k hk
  have := h1 b hl.1 hl.2.1 hl.2.2.1
  have := (hl.2.2.2 b' h2 h3 h4).1
  omega
/-- the first one of the least costs is one -/
theorem end_one {s : Sto} {f : Cxt} {k k' : Int} (h : stEnd s f k) (h' : stEnd s f k') : k = k' := by
  have a := h.2.2 k' h'.1 h'.2.1
  have b := h'.2.2 k h.1 h.2.1
  rcases Int.lt_trichotomy k k' with e | e | e
  · have := b.2 e; omega
  · exact e
  · have := a.2 e; omega
def exS : Sto := ⟨10, 10, 10, 0, 0⟩
def exP : Nat → Int := fun k => if k = 0 then 2 else 5
theorem exE : stoE exS 2 exP = 0 := by decide
theorem ex_law {F : Nat → Cxt} {lv : Nat → Int} (h : stCh exS 2 exP F) (he : stEnd exS (F 2) (lv 2)) (hl : ∀ t, t < 2 → stLast exS (exP t) (F t) (lv t) (lv (t + 1))) : lv 0 = 0 ∧ lv 1 = 10 ∧ lv 2 = 0 ∧ (F 2).V (lv 2) = -30 := by
  have hs : stOk exS := by decide
  obtain ⟨b1, b2, b3, b4⟩ := begC_B hs
  have e0 := h.1
  have hV0 : (F 0).V 0 = 0 := by rw [e0]; exact b4
  have hlo0 : (F 0).lo = 0 := by rw [e0]; exact b2
  have hhi0 : (F 0).hi = 0 := by rw [e0]; exact b3
  obtain ⟨-, p2, p3, -, p5⟩ := h.2.1 0 (by omega)
  obtain ⟨-, q2, q3, -, q5⟩ := h.2.1 1 (by omega)
  have l1 : (F 1).lo = 0 := by rw [p2, hlo0]; decide
  have u1 : (F 1).hi = 10 := by rw [p3, hhi0]; decide
  have l2 : (F 2).lo = 0 := by rw [q2, l1]; decide
  have u2 : (F 2).hi = 10 := by rw [q3, u1]; decide
  have hV1 : ∀ k, 0 ≤ k → k ≤ 10 → (F 1).V k = 2 * k := fun k h1 h2 => by
    obtain ⟨-, b, c1, -, -, c4⟩ := p5 k ⟨by rw [l1]; exact h1, by rw [u1]; exact h2⟩
    obtain rfl : b = 0 := by
      have h1 := c1.1
      have h2 := c1.2
      rw [hlo0] at h1
      rw [hhi0] at h2
      omega
    have c4 : (F (0 + 1)).V k = (F 0).V 0 + 2 * (k - 0) := c4
    rw [hV0] at c4
    have c4 : (F 1).V k = 0 + 2 * (k - 0) := c4
    omega
  have hD : exS.D = 10 := rfl
  have hC : exS.C = 10 := rfl
  have hen : exS.en = 0 := rfl
  have k1 := he.1.1
  have k2 := he.1.2
  rw [l2] at k1
  rw [u2] at k2
  -- the cost at 0 is at most -30
  have z1 := (q5 0 ⟨by rw [l2]; decide, by rw [u2]; decide⟩).1 10 ⟨by rw [l1]; decide, by rw [u1]; decide⟩ (by rw [hD]; decide) (by rw [hC]; decide)
  have z1 : (F 2).V 0 ≤ (F 1).V 10 + 5 * (0 - 10) := z1
  rw [hV1 10 (by decide) (by decide)] at z1
  obtain ⟨-, b, c1, c2, c3, c4⟩ := q5 (lv 2) ⟨by rw [l2]; exact k1, by rw [u2]; exact k2⟩
  have cb1 := c1.1
  have cb2 := c1.2
  rw [l1] at cb1
  rw [u1] at cb2
  have c4 : (F 2).V (lv 2) = (F 1).V b + 5 * (lv 2 - b) := c4
  rw [hV1 b cb1 cb2] at c4
  have z2 := (he.2.2 0 ⟨by rw [l2]; decide, by rw [u2]; decide⟩ (by rw [hen]; decide)).1
  have g2 : lv 2 = 0 := by omega
  have g3 : (F 2).V (lv 2) = -30 := by rw [g2] at c4 z2 ⊢; omega
  obtain ⟨m1, m2, m3, m4⟩ := hl 1 (by omega)
  have m11 := m1.1
  have m12 := m1.2
  rw [l1] at m11
  rw [u1] at m12
  have g2' : lv (1 + 1) = 0 := g2
  have m5 := (m4 10 ⟨by rw [l1]; decide, by rw [u1]; decide⟩ (by rw [hD, g2']; decide) (by rw [hC, g2']; decide)).1
  have m5 : (F 1).V (lv 1) + 5 * (lv 2 - lv 1) ≤ (F 1).V 10 + 5 * (lv 2 - 10) := m5
  rw [hV1 _ m11 m12, hV1 10 (by decide) (by decide)] at m5
  have g1 : lv 1 = 10 := by omega
  obtain ⟨n1, -, -, -⟩ := hl 0 (by omega)
  have n11 := n1.1
  have n12 := n1.2
  rw [hlo0] at n11
  rw [hhi0] at n12
  exact ⟨by omega, g1, g2, g3⟩
/-- a fact that is kept, so that it does not come in the way -/
theorem exBest : Fn Try.prog 4 [sV exS, .c (.sl 1 2 (c1 exP))] (fun obs r => obs = [] ∧ r = .tup [.c (.sl 1 2 (c1 fun t => if t = 0 then 10 else -10)), intV (-30), intV 0]) := by
  refine (stBest exS 2 exP (by decide)).res fun obs r hr => ?_
  obtain ⟨rfl, hr⟩ := hr
  rcases hr with ⟨h, -⟩ | ⟨-, F, hc, h | ⟨-, lv, he, hl, rfl⟩⟩
  · exact absurd exE h
  · have hB := hc.2.2 2 (Nat.le_refl 2)
    have h1 := Cxt.le hB.1
    have h2 := hB.2.1
    have h3 := h.1
    have : exS.en = 0 := rfl
    omega
  · obtain ⟨a0, a1, a2, a3⟩ := ex_law hc he hl
    refine ⟨_, ⟨rfl, rfl⟩, Le1.tup (Le.cons (Le1.sl fun k hk j hj => ?_) (Le.cons (Le1.of_eq (congrArg intV a3)) (Le.cons (Le1.refl _) Le.nil)))⟩
    match k, j, hk, hj with
    | 0, 0, _, _ => exact congrArg iL (by show lv (0 + 1) - lv 0 = 10; have : lv (0 + 1) = lv 1 := rfl; omega)
    | 1, 0, _, _ => exact congrArg iL (by show lv (1 + 1) - lv 1 = -10; have : lv (1 + 1) = lv 2 := rfl; omega)
abbrev best3 (s : Sto) (m : Nat) (pr : Nat → Int) (k : Nat) (fl : Nat → Int) (c e : Int) : Prop :=
  (stoE s m pr ≠ 0 ∧ k = 0 ∧ c = 0 ∧ e = stoE s m pr) ∨ (stoE s m pr = 0 ∧ ∃ F, stCh s m pr F ∧ (((F m).hi < s.en ∧ k = 0 ∧ c = 0 ∧ e = 8) ∨
    (s.en ≤ (F m).hi ∧ k = m ∧ e = 0 ∧ ∃ lv : Nat → Int, stEnd s (F m) (lv m) ∧ (∀ t, t < m → stLast s (pr t) (F t) (lv t) (lv (t + 1))) ∧ (∀ t, fl t = lv (t + 1) - lv t) ∧ c = (F m).V (lv m))))
def best2 (s : Sto) (m : Nat) (pr : Nat → Int) (obs : List OB) (r : AV) : Prop := obs = [] ∧ ∃ (k : Nat) (fl : Nat → Int) (c e : Int), r = .tup [.c (.sl 1 k (c1 fl)), intV c, intV e] ∧ best3 s m pr k fl c e
theorem stBest2 (s : Sto) (m : Nat) (pr : Nat → Int) (hm : m ≤ maxLen) : Fn Try.prog 4 [sV s, .c (.sl 1 m (c1 pr))] (best2 s m pr) := by
  refine (stBest s m pr hm).res fun obs r hr => ?_
  obtain ⟨rfl, hr⟩ := hr
  rcases hr with ⟨h, rfl⟩ | ⟨h0, F, hc, ⟨h, rfl⟩ | ⟨h, lv, he, hl, rfl⟩⟩
  · exact ⟨_, ⟨rfl, 0, fun _ => 0, 0, _, rfl, .inl ⟨h, rfl, rfl, rfl⟩⟩, Le1.tup (Le.cons Le1.nil (Le.cons (Le1.refl _) (Le.cons (Le1.refl _) Le.nil)))⟩
  · exact ⟨_, ⟨rfl, 0, fun _ => 0, 0, 8, rfl, .inr ⟨h0, F, hc, .inl ⟨h, rfl, rfl, rfl⟩⟩⟩, Le1.tup (Le.cons Le1.nil (Le.cons (Le1.refl _) (Le.cons (Le1.refl _) Le.nil)))⟩
  · exact ⟨_, ⟨rfl, m, _, _, 0, rfl, .inr ⟨h0, F, hc, .inr ⟨h, rfl, rfl, lv, he, hl, fun t => rfl, rfl⟩⟩⟩, Le1.refl _⟩
end Go.Proofs.Ytnkgoidhejeacaa
