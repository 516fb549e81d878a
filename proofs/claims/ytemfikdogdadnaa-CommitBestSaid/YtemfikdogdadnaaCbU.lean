/-
  commit: what serve returns, with one order of the blocks for each pattern.
-/
import Derived.Test.YtemfikdogdadnaaComV
import Derived.Test.YtemfikdogdadnaaSrtE
namespace Go.Proofs.Ytemfikdogdadnaa
open Go.RowKit

theorem Sorted.uniq {key : Nat → Int} {π π' : Nat → Nat} {n t : Nat} (h1 : Sorted key π n) (h2 : Sorted key π' n) (ht : t < n) : π t = π' t := by
  obtain ⟨u, hu, e⟩ := h2.onto (h1.lt ht)
  have r1 := h1.rank ht
  have r2 := h2.rank hu
  rw [e] at r2
  have : t = u := by omega
  rw [this, e]
  rw [this]
theorem bCum_uniq {m : Nat → Nat} {p q : Nat → Nat → Int} {n : Nat} {π π' : Nat → Nat} (h1 : Sorted (bSz m q n) π (oN m n)) (h2 : Sorted (bSz m q n) π' (oN m n)) {b : Nat} (hb : b ≤ oN m n) : bCum m p n π b = bCum m p n π' b :=
  S_congr fun k hk => by rw [h1.uniq h2 (by omega)]
theorem bX_uniq {m : Nat → Nat} {p q : Nat → Nat → Int} {n : Nat} {π π' : Nat → Nat} (h1 : Sorted (bSz m q n) π (oN m n)) (h2 : Sorted (bSz m q n) π' (oN m n)) (T : Int) (k : Nat) : bX m p n π T k (oN m n) = bX m p n π' T k (oN m n) :=
  S_congr fun b hb => by
    unfold bTk
    rw [h1.uniq h2 hb, bCum_uniq h1 h2 (Nat.le_of_lt hb), bCum_uniq h1 h2 hb]
/-- the generators, and for each pattern an order of its blocks -/
structure Cgx where
  u : Nat → CuR
  n : Nat
  π : (Nat → Bool) → Nat → Nat
structure Cgx.ok (G : Cgx) : Prop where
  n3 : G.n ≤ 3
  v : ∀ k, k < G.n → cuE (G.u k) = 0
  z : ∀ k, k < G.n → cuZ (G.u k)
  s : ∀ o, Sorted (bSz (cM G.u o) (cQ G.u o) G.n) (G.π o) (oN (cM G.u o) G.n)
/-- the demand can be served -/
def Cgx.can (G : Cgx) (o : Nat → Bool) (T : Int) : Bool := decide (0 ≤ T - S (cLo G.u o) G.n ∧ T - S (cLo G.u o) G.n ≤ S (cR G.u o) G.n)
/-- the power of a generator that is on -/
def Cgx.pw (G : Cgx) (o : Nat → Bool) (T : Int) (k : Nat) : Int := cLo G.u o k + cX G.u o G.n (G.π o) (T - S (cLo G.u o) G.n) k
def Cgx.sP (G : Cgx) (o : Nat → Bool) (T : Int) (k : Nat) : Int := if o k then G.pw o T k else -1
def Cgx.sC (G : Cgx) (o : Nat → Bool) (T : Int) : Int := S (cC G.u (G.pw o T)) G.n
theorem Cgx.can_iff {G : Cgx} {o : Nat → Bool} {T : Int} : G.can o T = true ↔ 0 ≤ T - S (cLo G.u o) G.n ∧ T - S (cLo G.u o) G.n ≤ S (cR G.u o) G.n := decide_eq_true_iff
theorem Cgx.pw_of {G : Cgx} (h : G.ok) {o : Nat → Bool} {T : Int} {π : Nat → Nat} (hq : Sorted (bSz (cM G.u o) (cQ G.u o) G.n) π (oN (cM G.u o) G.n)) (k : Nat) : cLo G.u o k + cX G.u o G.n π (T - S (cLo G.u o) G.n) k = G.pw o T k := by
  show _ = cLo G.u o k + bX _ _ _ _ _ _ _
  rw [bX_uniq (h.s o) hq]
def svC (G : Cgx) (o : Nat → Bool) (T : Int) (obs : List OB) (v : AV) : Prop :=
  obs = [] ∧ ∃ K g c, v = .tup [.c (.sl 1 K (c1 g)), intV c, boolV (G.can o T)] ∧ (G.can o T = true → K = G.n ∧ g = G.sP o T ∧ c = G.sC o T)
theorem serveC (G : Cgx) (h : G.ok) (o : Nat → Bool) (T : Int) (hT : 0 ≤ T ∧ T ≤ 1000000) :
    Fn Try.prog 57 [.c (.sl 13 G.n (cCu G.u)), .c (.sl 1 G.n (cB o)), intV T] (svC G o T) :=
  (cmServe G.u o G.n T h.n3 hT h.v h.z).res fun obs r ⟨h1, h2⟩ => by
    rcases h2 with ⟨h2, rfl⟩ | ⟨h2, π, hq, rfl⟩
    · have hc : G.can o T = false := decide_eq_false (by omega)
      exact ⟨_, ⟨h1, 0, fun _ => 0, 0, rfl, fun h => by rw [hc] at h; cases h⟩, by rw [hc]; exact vTup (Le.cons vNil (Le.cons (Le1.refl _) (Le.cons (Le1.refl _) Le.nil)))⟩
    · have hc : G.can o T = decide (T - S (cLo G.u o) G.n ≤ S (cR G.u o) G.n) := by
        unfold Cgx.can
        rw [Bool.eq_iff_iff, decide_eq_true_eq, decide_eq_true_eq]
        omega
      rw [← hc]
      refine ⟨_, ⟨h1, G.n, _, _, rfl, fun h3 => ⟨rfl, ?_, ?_⟩⟩, Le1.refl _⟩
      · funext k
        show (if o k then _ else -1) = if o k then _ else -1
        by_cases ho : o k = true
        · rw [if_pos ho, if_pos ho]
          exact G.pw_of h hq k
        · rw [if_neg ho, if_neg ho]
      · obtain ⟨g1, g2⟩ := Cgx.can_iff.1 h3
        refine (sv_cost h.v hq g1 g2).trans ?_
        unfold Cgx.sC
        congr 2
        funext k
        exact G.pw_of h hq k
/-- Cheapest has the same cost -/
def chC (G : Cgx) (o : Nat → Bool) (T : Int) (obs : List OB) (v : AV) : Prop :=
  obs = [] ∧ ∃ c, v = .tup [intV c, boolV (G.can o T)] ∧ (G.can o T = true → c = G.sC o T)
theorem cheapC (G : Cgx) (h : G.ok) (o : Nat → Bool) (T : Int) (hT : 0 ≤ T ∧ T ≤ 1000000) :
    Fn Try.prog 32 [.c (.sl 13 G.n (cCu G.u)), .c (.sl 1 G.n (c1 fun k => if o k then 1 else 0)), intV T] (chC G o T) :=
  Fn.mono (cmCheap G.u o G.n T (G.π o) h.n3 hT h.v (h.s o)) fun obs r ⟨h1, c, h2, h3⟩ => ⟨h1, c, h2, fun h4 => h3 (Cgx.can_iff.1 h4)⟩
theorem Cgx.pw_b {G : Cgx} (h : G.ok) {o : Nat → Bool} {T : Int} (hc : G.can o T = true) : S (G.pw o T) G.n = T ∧ ∀ k, k < G.n → cLo G.u o k ≤ G.pw o T k ∧ G.pw o T k ≤ cHi G.u o k := by
  obtain ⟨g1, g2⟩ := Cgx.can_iff.1 hc
  obtain ⟨e1, e2⟩ := cX_b h.v (h.s o) g1 g2
  refine ⟨?_, fun k hk => ?_⟩
  · have : S (G.pw o T) G.n = S (cLo G.u o) G.n + S (cX G.u o G.n (G.π o) (T - S (cLo G.u o) G.n)) G.n := S_plus2 _ _ _
    omega
  · have := e2 k hk
    unfold cR at this
    show cLo G.u o k ≤ cLo G.u o k + cX G.u o G.n (G.π o) (T - S (cLo G.u o) G.n) k ∧ cLo G.u o k + cX G.u o G.n (G.π o) (T - S (cLo G.u o) G.n) k ≤ cHi G.u o k
    omega
theorem Cgx.sC_b {G : Cgx} (h : G.ok) (o : Nat → Bool) (T : Int) : -3600000000000 ≤ G.sC o T ∧ G.sC o T ≤ 3600000000000 := by
  have := cC_b h.v (G.pw o T) (Nat.le_refl G.n)
  have := h.n3
  unfold Cgx.sC
  omega
end Go.Proofs.Ytemfikdogdadnaa
