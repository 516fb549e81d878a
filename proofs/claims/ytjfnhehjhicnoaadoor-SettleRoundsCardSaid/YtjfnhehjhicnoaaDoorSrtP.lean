/-
  Stable sorting: the plain laws. A list is told by the original places of its elements.
-/
import Derived.Test.YtjfnhehjhicnoaaDoorPur
namespace Go.Proofs.YtjfnhehjhicnoaaDoor
open Go.RowKit

def gamZ : Gam := fun _ => none
theorem gamZ_ok : GOk Tryd.prog gamZ := fun _ _ h => by cases h

theorem half_eq (s : Nat) (h : s ≤ 4000000) : IntKind.i64.wrap (shrI IntKind.u64 (IntKind.u64.wrap (s : Int)) 1) = (s / 2 : Nat) := by
  have e1 : IntKind.u64.wrap (s : Int) = s := by
    simp only [IntKind.wrap, IntKind.signed, IntKind.bits]
    simp
    omega
  rw [e1]
  unfold shrI
  rw [show (1 : Int).toNat = 1 from rfl, show min 1 IntKind.u64.bits = 1 from rfl]
  rw [show ((s : Int).fdiv (2 ^ 1)) = ((s / 2 : Nat) : Int) by rw [show (2 : Int) ^ 1 = 2 from rfl, Int.fdiv_eq_ediv_of_nonneg _ (by decide)]; omega]
  exact wr_id (by omega) (by omega)
theorem half_add {a b : Nat} (h : a + b ≤ 4000000) : IntKind.i64.wrap (shrI IntKind.u64 (IntKind.u64.wrap (IntKind.i64.wrap ((a : Int) + (b : Int)))) 1) = ((a + b) / 2 : Nat) := by
  rw [show IntKind.i64.wrap ((a : Int) + (b : Int)) = ((a + b : Nat) : Int) from (wr_id (by omega) (by omega)).trans (by omega)]
  exact half_eq (a + b) h

/-- by key, then by original place -/
def sLt (key : Nat → Int) (i j : Nat) : Prop := key i < key j ∨ key i = key j ∧ i < j
theorem sLt.trans {key : Nat → Int} {i j k : Nat} (h : sLt key i j) (h' : sLt key j k) : sLt key i k := by
  unfold sLt at *
  omega
theorem sLt.irr {key : Nat → Int} {i : Nat} (h : sLt key i i) : False := by
  unfold sLt at h
  omega

/-- in [a,b) they go up -/
def Asc (key : Nat → Int) (p : Nat → Nat) (a b : Nat) : Prop := ∀ i j, a ≤ i → i < j → j < b → sLt key (p i) (p j)
theorem Asc.sub {key : Nat → Int} {p : Nat → Nat} {a b a' b' : Nat} (h : Asc key p a b) (h1 : a ≤ a') (h2 : b' ≤ b) : Asc key p a' b' := fun i j hi hj hb => h i j (by omega) hj (by omega)
theorem Asc.short {key : Nat → Int} {p : Nat → Nat} {a b : Nat} (h : b ≤ a + 1) : Asc key p a b := fun i j hi hj hb => by omega

/-- q has in [a,b) what p has there, and elsewhere it is p -/
structure Rea (p q : Nat → Nat) (a b : Nat) : Prop where
  out : ∀ k, k < a ∨ b ≤ k → q k = p k
  fwd : ∀ k, a ≤ k → k < b → ∃ i, a ≤ i ∧ i < b ∧ q k = p i
  bwd : ∀ i, a ≤ i → i < b → ∃ k, a ≤ k ∧ k < b ∧ q k = p i
theorem Rea.refl (p : Nat → Nat) (a b : Nat) : Rea p p a b := ⟨fun _ _ => rfl, fun k h1 h2 => ⟨k, h1, h2, rfl⟩, fun k h1 h2 => ⟨k, h1, h2, rfl⟩⟩
theorem Rea.trans {p q r : Nat → Nat} {a b : Nat} (h : Rea p q a b) (h' : Rea q r a b) : Rea p r a b :=
  ⟨fun k hk => (h'.out k hk).trans (h.out k hk), fun k h1 h2 => by
    obtain ⟨i, i1, i2, e⟩ := h'.fwd k h1 h2
    obtain ⟨j, j1, j2, e'⟩ := h.fwd i i1 i2
    exact ⟨j, j1, j2, e.trans e'⟩, fun i h1 h2 => by
    obtain ⟨k, k1, k2, e⟩ := h.bwd i h1 h2
    obtain ⟨l, l1, l2, e'⟩ := h'.bwd k k1 k2
    exact ⟨l, l1, l2, e'.trans e⟩⟩
theorem Rea.wide {p q : Nat → Nat} {a b a' b' : Nat} (h : Rea p q a b) (h1 : a' ≤ a) (h2 : b ≤ b') : Rea p q a' b' :=
  ⟨fun k hk => h.out k (by omega), fun k k1 k2 => by
    by_cases hk : a ≤ k ∧ k < b
    · obtain ⟨i, i1, i2, e⟩ := h.fwd k hk.1 hk.2
      exact ⟨i, by omega, by omega, e⟩
    · exact ⟨k, k1, k2, h.out k (by omega)⟩, fun k k1 k2 => by
    by_cases hk : a ≤ k ∧ k < b
    · obtain ⟨i, i1, i2, e⟩ := h.bwd k hk.1 hk.2
      exact ⟨i, by omega, by omega, e⟩
    · exact ⟨k, k1, k2, h.out k (by omega)⟩⟩
theorem Rea.asc_out {key : Nat → Int} {p q : Nat → Nat} {a b c d : Nat} (h : Rea p q a b) (hc : Asc key p c d) (h' : d ≤ a ∨ b ≤ c) : Asc key q c d := fun i j hi hj hb => by
  rw [h.out i (by omega), h.out j (by omega)]
  exact hc i j hi hj hb
/-- told by a change of places -/
theorem Rea.of {p : Nat → Nat} {f g : Nat → Nat} {a b : Nat} (h0 : ∀ k, k < a ∨ b ≤ k → f k = k) (h1 : ∀ k, a ≤ k → k < b → a ≤ f k ∧ f k < b) (h2 : ∀ k, a ≤ k → k < b → a ≤ g k ∧ g k < b ∧ f (g k) = k) : Rea p (fun k => p (f k)) a b :=
  ⟨fun k hk => congrArg p (h0 k hk), fun k k1 k2 => ⟨f k, (h1 k k1 k2).1, (h1 k k1 k2).2, rfl⟩, fun k k1 k2 => ⟨g k, (h2 k k1 k2).1, (h2 k k1 k2).2.1, congrArg p (h2 k k1 k2).2.2⟩⟩

/-- n places from a on and from b on change with each other -/
def swI (a b n k : Nat) : Nat := if a ≤ k ∧ k < a + n then b + (k - a) else if b ≤ k ∧ k < b + n then a + (k - b) else k
/-- [a,m) and [m,b) change places -/
def roI (a m b k : Nat) : Nat := if a ≤ k ∧ k < a + (b - m) then m + (k - a) else if a + (b - m) ≤ k ∧ k < b then a + (k - (a + (b - m))) else k
theorem roI_eq {m i : Nat} (h : i ≤ m) : swI (m - i) m i = roI (m - i) m (m + i) := by
  funext k
  unfold swI roI
  repeat' split
  all_goals omega
theorem roI_gt {m i j : Nat} (h : i ≤ m) (h' : j < i) (k : Nat) : swI (m - i) m j (roI (m - (i - j)) m (m + j) k) = roI (m - i) m (m + j) k := by
  unfold swI roI
  repeat' split
  all_goals omega
theorem roI_lt {m i j : Nat} (h : i ≤ m) (h' : i < j) (k : Nat) : swI (m - i) (m + j - i) i (roI (m - i) m (m + (j - i)) k) = roI (m - i) m (m + j) k := by
  unfold swI roI
  repeat' split
  all_goals omega
theorem rea_ro (p : Nat → Nat) {a m b : Nat} (h : a ≤ m) (h' : m ≤ b) : Rea p (fun k => p (roI a m b k)) a b :=
  Rea.of (g := fun k => if k < m then k + (b - m) else k - (m - a)) (fun k hk => by unfold roI; (repeat' split) <;> omega) (fun k h1 h2 => by unfold roI; (repeat' split) <;> omega) (fun k h1 h2 => by
    unfold roI
    repeat' split
    all_goals omega)

/-- the element at i moved down to j -/
def inI (j i k : Nat) : Nat := if k = j then i else if j < k ∧ k ≤ i then k - 1 else k
theorem inI_same (i k : Nat) : inI i i k = k := by unfold inI; (repeat' split) <;> omega
theorem rea_in (p : Nat → Nat) {a b j i : Nat} (h : a ≤ j) (h1 : j ≤ i) (h2 : i < b) : Rea p (fun k => p (inI j i k)) a b :=
  Rea.of (g := fun k => if k = i then j else if j ≤ k ∧ k < i then k + 1 else k) (fun k hk => by unfold inI; (repeat' split) <;> omega) (fun k h1 h2 => by unfold inI; (repeat' split) <;> omega) (fun k h1 h2 => by
    unfold inI
    repeat' split
    all_goals omega)
/-- the element at a moved up to t -/
def upI (a t k : Nat) : Nat := if k = t then a else if a ≤ k ∧ k < t then k + 1 else k
theorem upI_same (a k : Nat) : upI a a k = k := by unfold upI; (repeat' split) <;> omega
theorem rea_up (p : Nat → Nat) {a b c t : Nat} (h : a ≤ c) (h1 : c ≤ t) (h2 : t < b) : Rea p (fun k => p (upI c t k)) a b :=
  Rea.of (g := fun k => if k = c then t else if c < k ∧ k ≤ t then k - 1 else k) (fun k hk => by unfold upI; (repeat' split) <;> omega) (fun k h1 h2 => by unfold upI; (repeat' split) <;> omega) (fun k h1 h2 => by
    unfold upI
    repeat' split
    all_goals omega)

/-- an element put into its place from the right -/
theorem asc_in {key : Nat → Int} {p : Nat → Nat} {a j i : Nat} (h : Asc key p a i) (h1 : a ≤ j) (h2 : j ≤ i) (hlo : ∀ k, a ≤ k → k < j → sLt key (p k) (p i)) (hhi : ∀ k, j ≤ k → k < i → sLt key (p i) (p k)) : Asc key (fun k => p (inI j i k)) a (i + 1) := fun u v hu huv hv => by
  have key1 : ∀ x y, inI j i u = x → inI j i v = y → sLt key (p x) (p y) → sLt key (p (inI j i u)) (p (inI j i v)) := fun x y e1 e2 hs => by rw [e1, e2]; exact hs
  show sLt key (p (inI j i u)) (p (inI j i v))
  by_cases c1 : u < j
  · have e1 : inI j i u = u := by unfold inI; (repeat' split) <;> omega
    by_cases c2 : v < j
    · exact key1 u v e1 (by unfold inI; (repeat' split) <;> omega) (h u v hu huv (by omega))
    · by_cases c3 : v = j
      · exact key1 u i e1 (by unfold inI; (repeat' split) <;> omega) (hlo u hu c1)
      · exact key1 u (v - 1) e1 (by unfold inI; (repeat' split) <;> omega) (h u (v - 1) hu (by omega) (by omega))
  · by_cases c2 : u = j
    · exact key1 i (v - 1) (by unfold inI; (repeat' split) <;> omega) (by unfold inI; (repeat' split) <;> omega) (hhi (v - 1) (by omega) (by omega))
    · exact key1 (u - 1) (v - 1) (by unfold inI; (repeat' split) <;> omega) (by unfold inI; (repeat' split) <;> omega) (h (u - 1) (v - 1) (by omega) (by omega) (by omega))
/-- an element put into its place from the left: a goes to t -/
theorem asc_up {key : Nat → Int} {p : Nat → Nat} {a t b : Nat} (h : Asc key p (a + 1) b) (h1 : a ≤ t) (h2 : t < b) (hlo : ∀ k, a < k → k ≤ t → sLt key (p k) (p a)) (hhi : ∀ k, t < k → k < b → sLt key (p a) (p k)) : Asc key (fun k => p (upI a t k)) a b := fun u v hu huv hv => by
  have key1 : ∀ x y, upI a t u = x → upI a t v = y → sLt key (p x) (p y) → sLt key (p (upI a t u)) (p (upI a t v)) := fun x y e1 e2 hs => by rw [e1, e2]; exact hs
  show sLt key (p (upI a t u)) (p (upI a t v))
  by_cases c1 : t < u
  · exact key1 u v (by unfold upI; (repeat' split) <;> omega) (by unfold upI; (repeat' split) <;> omega) (h u v (by omega) huv hv)
  · by_cases c2 : u = t
    · exact key1 a v (by unfold upI; (repeat' split) <;> omega) (by unfold upI; (repeat' split) <;> omega) (hhi v (by omega) hv)
    · by_cases c3 : t < v
      · exact key1 (u + 1) v (by unfold upI; (repeat' split) <;> omega) (by unfold upI; (repeat' split) <;> omega) (h (u + 1) v (by omega) (by omega) hv)
      · by_cases c4 : v = t
        · exact key1 (u + 1) a (by unfold upI; (repeat' split) <;> omega) (by unfold upI; (repeat' split) <;> omega) (hlo (u + 1) (by omega) (by omega))
        · exact key1 (u + 1) (v + 1) (by unfold upI; (repeat' split) <;> omega) (by unfold upI; (repeat' split) <;> omega) (h (u + 1) (v + 1) (by omega) (by omega) (by omega))

/-- all original places in [a,m) lie before those in [m,b) -/
def Bef (p : Nat → Nat) (a m b : Nat) : Prop := ∀ i j, a ≤ i → i < m → m ≤ j → j < b → p i < p j

/-- what symMerge finds: the part [st,m) goes behind [m,e) -/
structure Cut (key : Nat → Int) (p : Nat → Nat) (a m b mid st : Nat) : Prop where
  h1 : a ≤ st
  h2 : st ≤ m
  h3 : st ≤ mid
  h4 : m ≤ mid + m - st
  h5 : mid + m - st ≤ b
  lo : ∀ i j, a ≤ i → i < st → mid + m - st ≤ j → j < b → sLt key (p i) (p j)
  hi : ∀ i j, m ≤ j → j < mid + m - st → st ≤ i → i < m → sLt key (p j) (p i)

theorem cut_of {key : Nat → Int} {p : Nat → Nat} {a m b mid st s0 r0 : Nat} (hA : Asc key p a m) (hB : Asc key p m b) (hmid : mid = (a + b) / 2) (ham : a < m) (hmb : m < b) (hs : s0 = if mid < m then mid + m - b else a) (hr : r0 = if mid < m then mid else m)
    (h1 : s0 ≤ st) (h2 : st ≤ r0) (hlo : s0 < st → sLt key (p (st - 1)) (p (mid + m - 1 - (st - 1)))) (hhi : st < r0 → sLt key (p (mid + m - 1 - st)) (p st)) : Cut key p a m b mid st := by
  have f1 : a ≤ s0 ∧ r0 ≤ m ∧ r0 ≤ mid ∧ mid + m - s0 ≤ b := by subst hs hr; split <;> omega
  refine ⟨by omega, by omega, by omega, by omega, by omega, fun i j i1 i2 j1 j2 => ?_, fun i j j1 j2 i1 i2 => ?_⟩
  · by_cases c : s0 < st
    · have h := hlo c
      have e1 : i = st - 1 ∨ sLt key (p i) (p (st - 1)) := by
        rcases Nat.lt_or_ge i (st - 1) with h' | h'
        · exact .inr (hA i (st - 1) i1 h' (by omega))
        · exact .inl (by omega)
      have e2 : j = mid + m - 1 - (st - 1) ∨ sLt key (p (mid + m - 1 - (st - 1))) (p j) := by
        rcases Nat.lt_or_ge (mid + m - 1 - (st - 1)) j with h' | h'
        · exact .inr (hB _ j (by omega) h' j2)
        · exact .inl (by omega)
      rcases e1 with rfl | e1 <;> rcases e2 with rfl | e2
      · exact h
      · exact h.trans e2
      · exact e1.trans h
      · exact (e1.trans h).trans e2
    · exfalso
      have : st = s0 := by omega
      by_cases c' : mid < m
      · rw [if_pos c'] at hs; omega
      · rw [if_neg c'] at hs; omega
  · by_cases c : st < r0
    · have h := hhi c
      have e1 : j = mid + m - 1 - st ∨ sLt key (p j) (p (mid + m - 1 - st)) := by
        rcases Nat.lt_or_ge j (mid + m - 1 - st) with h' | h'
        · exact .inr (hB j _ j1 h' (by omega))
        · exact .inl (by omega)
      have e2 : i = st ∨ sLt key (p st) (p i) := by
        rcases Nat.lt_or_ge st i with h' | h'
        · exact .inr (hA st i (by omega) h' i2)
        · exact .inl (by omega)
      rcases e1 with rfl | e1 <;> rcases e2 with rfl | e2
      · exact h
      · exact h.trans e2
      · exact e1.trans h
      · exact (e1.trans h).trans e2
    · exfalso
      have : st = r0 := by omega
      by_cases c' : mid < m
      · rw [if_pos c'] at hr; omega
      · rw [if_neg c'] at hr; omega

/-- after the turn: four pieces that go up, the two halves apart -/
structure Halved (key : Nat → Int) (q : Nat → Nat) (a st mid e b : Nat) : Prop where
  p1 : Asc key q a st
  p2 : Asc key q st mid
  p3 : Asc key q mid e
  p4 : Asc key q e b
  b1 : Bef q a st mid
  b2 : Bef q mid e b
  cr : ∀ i j, a ≤ i → i < mid → mid ≤ j → j < b → sLt key (q i) (q j)
theorem halved {key : Nat → Int} {p : Nat → Nat} {a m b mid st : Nat} (hA : Asc key p a m) (hB : Asc key p m b) (hP : Bef p a m b) (hc : Cut key p a m b mid st) (hm1 : a ≤ mid) (hm2 : mid ≤ b) : Halved key (fun k => p (roI st m (mid + m - st) k)) a st mid (mid + m - st) b := by
  obtain ⟨c1, c2, c3, c4, c5, clo, chi⟩ := hc
  have r1 : ∀ k, k < st → roI st m (mid + m - st) k = k := fun k hk => by unfold roI; (repeat' split) <;> omega
  have r2 : ∀ k, st ≤ k → k < mid → roI st m (mid + m - st) k = k + (m - st) := fun k h1 h2 => by unfold roI; (repeat' split) <;> omega
  have r3 : ∀ k, mid ≤ k → k < mid + m - st → roI st m (mid + m - st) k + (mid - st) = k := fun k h1 h2 => by unfold roI; (repeat' split) <;> omega
  have r4 : ∀ k, mid + m - st ≤ k → roI st m (mid + m - st) k = k := fun k hk => by unfold roI; (repeat' split) <;> omega
  refine ⟨fun i j h1 h2 h3 => ?_, fun i j h1 h2 h3 => ?_, fun i j h1 h2 h3 => ?_, fun i j h1 h2 h3 => ?_, fun i j h1 h2 h3 h4 => ?_, fun i j h1 h2 h3 h4 => ?_, fun i j h1 h2 h3 h4 => ?_⟩
  · show sLt _ _ _
    rw [r1 i (by omega), r1 j h3]
    exact hA i j h1 h2 (by omega)
  · show sLt _ _ _
    rw [r2 i h1 (by omega), r2 j (by omega) h3]
    exact hB _ _ (by omega) (by omega) (by omega)
  · have e1 := r3 i h1 (by omega)
    have e2 := r3 j (by omega) h3
    exact hA _ _ (by omega) (by omega) (by omega)
  · show sLt _ _ _
    rw [r4 i h1, r4 j (by omega)]
    exact hB i j (by omega) h2 h3
  · show p _ < p _
    rw [r1 i h2, r2 j h3 h4]
    exact hP _ _ h1 (by omega) (by omega) (by omega)
  · have e1 := r3 i h1 h2
    rw [r4 j h3]
    exact hP _ _ (by omega) (by omega) (by omega) h4
  · have e3 : j < mid + m - st → roI st m (mid + m - st) j + (mid - st) = j := fun h => r3 j h3 h
    by_cases ci : i < st
    · show sLt _ _ _
      rw [r1 i ci]
      by_cases cj : j < mid + m - st
      · have e := e3 cj
        exact hA _ _ h1 (by omega) (by omega)
      · rw [r4 j (by omega)]
        exact clo i j h1 ci (by omega) h4
    · show sLt _ _ _
      rw [r2 i (by omega) h2]
      by_cases cj : j < mid + m - st
      · have e := e3 cj
        exact chi _ _ (by omega) (by omega) (by omega) (by omega)
      · rw [r4 j (by omega)]
        exact hB _ _ (by omega) (by omega) h4
theorem Halved.one {key : Nat → Int} {q : Nat → Nat} {a st mid e b : Nat} (h : Halved key q a st mid e b) (h1 : a ≤ st) (h2 : st ≤ mid) (hn : ¬(a < st ∧ st < mid)) : Asc key q a mid := by
  by_cases e1 : a = st
  · subst e1; exact h.p2
  · have e2 : st = mid := by omega
    have := h.p1
    rwa [e2] at this
theorem Halved.two {key : Nat → Int} {q : Nat → Nat} {a st mid e b : Nat} (h : Halved key q a st mid e b) (h1 : mid ≤ e) (h2 : e ≤ b) (hn : ¬(mid < e ∧ e < b)) : Asc key q mid b := by
  by_cases e1 : mid = e
  · subst e1; exact h.p4
  · have e2 : e = b := by omega
    have := h.p3
    rwa [e2] at this
theorem Rea.bnd {p q : Nat → Nat} {a b n : Nat} (h : Rea p q a b) (hb : b ≤ n) (hp : ∀ k, k < n → p k < n) : ∀ k, k < n → q k < n := fun k hk => by
  by_cases c : a ≤ k ∧ k < b
  · obtain ⟨i, i1, i2, e⟩ := h.fwd k c.1 c.2
    rw [e]; exact hp i (by omega)
  · rw [h.out k (by omega)]; exact hp k hk
theorem bef_out {p q : Nat → Nat} {a b c d e : Nat} (h : Rea p q a b) (hb : Bef p c d e) (hc : b ≤ c) : Bef q c d e := fun i j h1 h2 h3 h4 => by
  rw [h.out i (by omega), h.out j (by omega)]
  exact hb i j h1 h2 h3 h4
theorem roI_id {st m e : Nat} (h1 : st ≤ m) (h2 : m ≤ e) (hn : ¬(st < m ∧ m < e)) (k : Nat) : roI st m e k = k := by
  unfold roI
  repeat' split
  all_goals omega
/-- and when both halves go up, all does -/
theorem halved_end {key : Nat → Int} {q q1 q2 : Nat → Nat} {a mid b : Nat} (hcr : ∀ i j, a ≤ i → i < mid → mid ≤ j → j < b → sLt key (q i) (q j)) (h1 : Rea q q1 a mid) (a1 : Asc key q1 a mid) (h2 : Rea q1 q2 mid b) (a2 : Asc key q2 mid b) : Asc key q2 a b := fun i j hi hj hb => by
  by_cases c1 : j < mid
  · rw [h2.out i (by omega), h2.out j (by omega)]
    exact a1 i j hi hj c1
  · by_cases c2 : mid ≤ i
    · exact a2 i j c2 hj hb
    · rw [h2.out i (by omega)]
      obtain ⟨j', j1, j2, e⟩ := h2.fwd j (by omega) hb
      rw [e, h1.out j' (by omega)]
      obtain ⟨i', i1, i2, e'⟩ := h1.fwd i hi (by omega)
      rw [e']
      exact hcr i' j' i1 i2 j1 j2

/-- blocks of B places: each goes up, and their original places lie apart -/
def Inv (key : Nat → Int) (B : Nat) (q : Nat → Nat) (lo hi : Nat) : Prop := ∀ i j, lo ≤ i → i < j → j < hi → (∀ s, B * s ≤ i → j < B * s + B → sLt key (q i) (q j)) ∧ ∀ s, i < B * s → B * s ≤ j → q i < q j
/-- a pass of merges, come to place a -/
structure Pass (key : Nat → Int) (B : Nat) (q : Nat → Nat) (a n : Nat) : Prop where
  done : Inv key (2 * B) q 0 a
  todo : Inv key B q a n
  apart : Bef q 0 a n
theorem Pass.start {key : Nat → Int} {B : Nat} {q : Nat → Nat} {n : Nat} (h : Inv key B q 0 n) : Pass key B q 0 n := ⟨fun i j _ _ hj => by omega, h, fun i j _ hi => by omega⟩
theorem Pass.step {key : Nat → Int} {B s b n : Nat} {q q' : Nat → Nat} (h : Pass key B q (2 * B * s) n) (hb : b = 2 * B * s + 2 * B ∨ b = n ∧ n ≤ 2 * B * s + 2 * B) (hab : 2 * B * s ≤ b) (hbn : b ≤ n) (hr : Rea q q' (2 * B * s) b) (ha : Asc key q' (2 * B * s) b) : Pass key B q' b n := by
  obtain ⟨d, t, ap⟩ := h
  have mono : ∀ {x y : Nat}, 2 * B * x < 2 * B * y → x < y := fun h => Nat.lt_of_mul_lt_mul_left h
  have nxt : 2 * B * s + 2 * B = 2 * B * (s + 1) := (Nat.mul_succ _ _).symm
  refine ⟨fun i j hi hij hj => ?_, fun i j hi hij hj => ?_, fun i j _ hi hj hjn => ?_⟩
  · by_cases c1 : j < 2 * B * s
    · rw [hr.out i (by omega), hr.out j (by omega)]
      exact d i j hi hij c1
    · by_cases c2 : 2 * B * s ≤ i
      · refine ⟨fun _ _ _ => ha i j c2 hij hj, fun s' h1 h2 => ?_⟩
        exfalso
        have := mono (x := s) (y := s') (by omega)
        have := mono (x := s') (y := s + 1) (by omega)
        omega
      · have hlt : q' i < q' j := by
          rw [hr.out i (by omega)]
          obtain ⟨j', j1, j2, e⟩ := hr.fwd j (by omega) hj
          rw [e]
          exact ap i j' hi (by omega) j1 (by omega)
        refine ⟨fun s' h1 h2 => ?_, fun _ _ _ => hlt⟩
        exfalso
        have n2 : 2 * B * s' + 2 * B = 2 * B * (s' + 1) := (Nat.mul_succ _ _).symm
        have := mono (x := s') (y := s) (by omega)
        have := mono (x := s) (y := s' + 1) (by omega)
        omega
  · rw [hr.out i (by omega), hr.out j (by omega)]
    exact t i j (by omega) hij hj
  · rw [hr.out j (by omega)]
    by_cases c : i < 2 * B * s
    · rw [hr.out i (by omega)]
      exact ap i j (Nat.zero_le _) c (by omega) hjn
    · obtain ⟨i', i1, i2, e⟩ := hr.fwd i (by omega) hi
      rw [e]
      have e2 : B * (2 * (s + 1)) = 2 * B * (s + 1) := by rw [← Nat.mul_assoc, Nat.mul_comm B 2]
      exact (t i' j i1 (by omega) hjn).2 (2 * (s + 1)) (by omega) (by omega)
/-- what a merge in a pass asks -/
theorem Pass.pre {key : Nat → Int} {B s b n : Nat} {q : Nat → Nat} (h : Pass key B q (2 * B * s) n) (hb : b ≤ 2 * B * s + 2 * B) (hbn : b ≤ n) : Asc key q (2 * B * s) (2 * B * s + B) ∨ True := .inr trivial
theorem Pass.asc1 {key : Nat → Int} {B s n : Nat} {q : Nat → Nat} (h : Pass key B q (2 * B * s) n) (hbn : 2 * B * s + B ≤ n) : Asc key q (2 * B * s) (2 * B * s + B) := fun i j hi hij hj => by
  have e : B * (2 * s) = 2 * B * s := by rw [← Nat.mul_assoc, Nat.mul_comm B 2]
  exact (h.todo i j hi hij (by omega)).1 (2 * s) (by omega) (by omega)
theorem Pass.asc2 {key : Nat → Int} {B s b n : Nat} {q : Nat → Nat} (h : Pass key B q (2 * B * s) n) (hb : b ≤ 2 * B * s + 2 * B) (hbn : b ≤ n) : Asc key q (2 * B * s + B) b := fun i j hi hij hj => by
  have e : B * (2 * s + 1) = 2 * B * s + B := by rw [Nat.mul_succ, ← Nat.mul_assoc, Nat.mul_comm B 2]
  exact (h.todo i j (by omega) hij (by omega)).1 (2 * s + 1) (by omega) (by omega)
theorem Pass.bef {key : Nat → Int} {B s b n : Nat} {q : Nat → Nat} (h : Pass key B q (2 * B * s) n) (hbn : b ≤ n) : Bef q (2 * B * s) (2 * B * s + B) b := fun i j hi him hj hjb => by
  have e : B * (2 * s + 1) = 2 * B * s + B := by rw [Nat.mul_succ, ← Nat.mul_assoc, Nat.mul_comm B 2]
  exact (h.todo i j hi (by omega) (by omega)).2 (2 * s + 1) (by omega) (by omega)
/-- the rest of a pass is one block -/
theorem Pass.rest {key : Nat → Int} {B s n : Nat} {q : Nat → Nat} (h : Pass key B q (2 * B * s) n) (hn : 2 * B * s ≤ n) (hm : n ≤ 2 * B * s + B) : Inv key (2 * B) q 0 n := by
  have ha : Asc key q (2 * B * s) n := fun i j hi hij hj => by
    have e : B * (2 * s) = 2 * B * s := by rw [← Nat.mul_assoc, Nat.mul_comm B 2]
    exact (h.todo i j hi hij (by omega)).1 (2 * s) (by omega) (by omega)
  exact (h.step (b := n) (.inr ⟨rfl, by omega⟩) hn (Nat.le_refl _) (Rea.refl q _ _) ha).done
theorem Inv.all {key : Nat → Int} {B n : Nat} {q : Nat → Nat} (h : Inv key B q 0 n) (hn : n ≤ B) : Asc key q 0 n := fun i j hi hij hj => (h i j hi hij hj).1 0 (by omega) (by omega)

/-- blocks sorted one by one, come to place a -/
structure Blks (key : Nat → Int) (B : Nat) (q : Nat → Nat) (a n : Nat) : Prop where
  inv : Inv key B q 0 a
  rea : Rea id q 0 a
theorem Blks.step {key : Nat → Int} {B s b n : Nat} {q q' : Nat → Nat} (h : Blks key B q (B * s) n) (hab : B * s ≤ b) (hb : b ≤ B * s + B) (hr : Rea q q' (B * s) b) (ha : Asc key q' (B * s) b) : Blks key B q' b n := by
  obtain ⟨d, t⟩ := h
  have mono : ∀ {x y : Nat}, B * x < B * y → x < y := fun h => Nat.lt_of_mul_lt_mul_left h
  have nxt : B * s + B = B * (s + 1) := (Nat.mul_succ _ _).symm
  refine ⟨fun i j hi hij hj => ?_, ?_⟩
  · by_cases c1 : j < B * s
    · rw [hr.out i (by omega), hr.out j (by omega)]
      exact d i j hi hij c1
    · by_cases c2 : B * s ≤ i
      · refine ⟨fun _ _ _ => ha i j c2 hij hj, fun s' h1 h2 => ?_⟩
        exfalso
        have := mono (x := s) (y := s') (by omega)
        have := mono (x := s') (y := s + 1) (by omega)
        omega
      · have hlt : q' i < q' j := by
          rw [hr.out i (by omega)]
          obtain ⟨j', j1, j2, e⟩ := hr.fwd j (by omega) hj
          rw [e, t.out j' (by omega)]
          obtain ⟨i', _, i2, e'⟩ := t.fwd i (Nat.zero_le _) (by omega)
          rw [e']
          show i' < j'
          omega
        refine ⟨fun s' h1 h2 => ?_, fun _ _ _ => hlt⟩
        exfalso
        have n2 : B * s' + B = B * (s' + 1) := (Nat.mul_succ _ _).symm
        have := mono (x := s') (y := s) (by omega)
        have := mono (x := s) (y := s' + 1) (by omega)
        omega
  · exact (t.wide (Nat.le_refl _) hab).trans (hr.wide (Nat.zero_le _) (Nat.le_refl _))
theorem Blks.start (key : Nat → Int) (B n : Nat) : Blks key B id 0 n := ⟨fun i j _ _ hj => by omega, Rea.refl id 0 0⟩

/-- q sorts n places stably by their keys -/
structure Sorted (key : Nat → Int) (q : Nat → Nat) (n : Nat) : Prop where
  asc : Asc key q 0 n
  rea : Rea id q 0 n
theorem Sorted.lt {key : Nat → Int} {q : Nat → Nat} {n : Nat} (h : Sorted key q n) {k : Nat} (hk : k < n) : q k < n := by
  obtain ⟨i, _, h2, e⟩ := h.rea.fwd k (Nat.zero_le _) hk
  rw [e]
  exact h2
theorem Sorted.onto {key : Nat → Int} {q : Nat → Nat} {n : Nat} (h : Sorted key q n) {i : Nat} (hi : i < n) : ∃ k, k < n ∧ q k = i := by
  obtain ⟨k, _, h2, e⟩ := h.rea.bwd i (Nat.zero_le _) hi
  exact ⟨k, h2, e⟩
theorem Sorted.le {key : Nat → Int} {q : Nat → Nat} {n : Nat} (h : Sorted key q n) {i j : Nat} (hij : i ≤ j) (hj : j < n) : key (q i) ≤ key (q j) := by
  rcases Nat.eq_or_lt_of_le hij with rfl | hlt
  · exact Int.le_refl _
  · have := h.asc i j (Nat.zero_le _) hlt hj
    unfold sLt at this
    omega
theorem Sorted.inj {key : Nat → Int} {q : Nat → Nat} {n : Nat} (h : Sorted key q n) {i j : Nat} (hi : i < n) (hj : j < n) (e : q i = q j) : i = j := by
  rcases Nat.lt_trichotomy i j with hlt | rfl | hlt
  · have := h.asc i j (Nat.zero_le _) hlt hj
    rw [e] at this
    exact (sLt.irr this).elim
  · rfl
  · have := h.asc j i (Nat.zero_le _) hlt hi
    rw [e] at this
    exact (sLt.irr this).elim

/-- one summand changed -/
theorem S_chg {f g : Nat → Int} {j : Nat} (h : ∀ k, k ≠ j → g k = f k) : ∀ n, S g n = S f n + (if j < n then g j - f j else 0)
  | 0 => by simp [S]
  | n + 1 => by
    simp only [S]
    rw [S_chg h n]
    by_cases hj : j = n
    · subst hj; rw [if_neg (by omega), if_pos (by omega)]; omega
    · rw [h n (fun e => hj e.symm)]
      by_cases h2 : j < n
      · rw [if_pos h2, if_pos (by omega)]; omega
      · rw [if_neg h2, if_neg (by omega)]; omega
/-- a sum in another order -/
theorem S_perm (f : Nat → Int) : ∀ (n : Nat) (q : Nat → Nat), (∀ k, k < n → q k < n) → (∀ i j, i < n → j < n → q i = q j → i = j) → (∀ i, i < n → ∃ k, k < n ∧ q k = i) → S (fun k => f (q k)) n = S f n
  | 0, _, _, _, _ => rfl
  | n + 1, q, h1, h2, h3 => by
    obtain ⟨j, hj, ej⟩ := h3 n (by omega)
    let q' : Nat → Nat := fun k => if k = j then q n else q k
    have e1 : S (fun k => f (q' k)) n = S (fun k => f (q k)) n + (if j < n then f (q n) - f (q j) else 0) := by
      rw [S_chg (f := fun k => f (q k)) (g := fun k => f (q' k)) (j := j) (fun k hk => by show f (if k = j then q n else q k) = f (q k); rw [if_neg hk]) n]
      show _ + (if j < n then f (if j = j then q n else q j) - f (q j) else 0) = _
      rw [if_pos rfl]
    have r := S_perm f n q' (fun k hk => by
      show (if k = j then q n else q k) < n
      split
      · have a1 := h1 n (by omega)
        have : q n ≠ n := fun e => by
          have := h2 n j (by omega) hj (e.trans ej.symm)
          omega
        omega
      · have a1 := h1 k (by omega)
        have : q k ≠ n := fun e => by
          have := h2 k j (by omega) hj (e.trans ej.symm)
          omega
        omega) (fun a b ha hb e => by
      simp only [q'] at e
      by_cases ca : a = j <;> by_cases cb : b = j
      · omega
      · rw [if_pos ca, if_neg cb] at e
        have := h2 n b (by omega) (by omega) e
        omega
      · rw [if_neg ca, if_pos cb] at e
        have := h2 a n (by omega) (by omega) e
        omega
      · rw [if_neg ca, if_neg cb] at e
        exact h2 a b (by omega) (by omega) e) (fun i hi => by
      obtain ⟨k, hk, ek⟩ := h3 i (by omega)
      by_cases hkn : k = n
      · subst hkn
        have hjn : j < k := by
          have : j ≠ k := fun e => by subst e; omega
          omega
        exact ⟨j, hjn, by show (if j = j then q k else q j) = i; rw [if_pos rfl]; exact ek⟩
      · have hkj : k ≠ j := fun e => by subst e; omega
        exact ⟨k, by omega, by show (if k = j then q n else q k) = i; rw [if_neg hkj]; exact ek⟩)
    show S (fun k => f (q k)) n + f (q n) = S f n + f n
    rw [← r, e1]
    by_cases hjn : j < n
    · rw [if_pos hjn, ej]; omega
    · have : j = n := by omega
      subst this
      rw [if_neg hjn, ej]; omega
theorem Sorted.sum {key : Nat → Int} {q : Nat → Nat} {n : Nat} (h : Sorted key q n) (f : Nat → Int) : S (fun k => f (q k)) n = S f n := S_perm f n q (fun _ hk => h.lt hk) (fun _ _ hi hj e => h.inj hi hj e) (fun _ hi => h.onto hi)
theorem S_below (t n : Nat) (h : t ≤ n) : S (fun s => if s < t then 1 else 0) n = t := by
  induction n with
  | zero => simp only [S]; omega
  | succ n ih =>
    simp only [S]
    by_cases ht : t ≤ n
    · rw [ih ht, if_neg (by omega)]; omega
    · have e : t = n + 1 := by omega
      subst e
      rw [if_pos (by omega), S_congr (g := fun _ => 1) (fun k hk => if_pos (by omega))]
      have : ∀ m, S (fun _ => (1 : Int)) m = m := fun m => by induction m with | zero => rfl | succ m ih => simp only [S, ih]; omega
      rw [this]; omega
instance (key : Nat → Int) (i j : Nat) : Decidable (sLt key i j) := by unfold sLt; infer_instance
/-- how many lie before an element is its place -/
theorem Sorted.rank {key : Nat → Int} {q : Nat → Nat} {n t : Nat} (h : Sorted key q n) (ht : t < n) : S (fun k => if sLt key k (q t) then 1 else 0) n = t := by
  rw [← h.sum]
  rw [S_congr (g := fun s => if s < t then 1 else 0) (fun s hs => by
    show (if sLt key (q s) (q t) then (1 : Int) else 0) = if s < t then 1 else 0
    by_cases hst : s < t
    · rw [if_pos hst, if_pos (h.asc s t (Nat.zero_le _) hst ht)]
    · rw [if_neg hst, if_neg fun hlt => ?_]
      rcases Nat.eq_or_lt_of_le (Nat.le_of_not_lt hst) with e | hlt'
      · subst e; exact sLt.irr hlt
      · exact sLt.irr (hlt.trans (h.asc t s (Nat.zero_le _) hlt' hs)))]
  exact S_below t n (by omega)
end Go.Proofs.YtjfnhehjhicnoaaDoor
