/-
  Search through all lists of digits, level by level, and the odometer that goes through the same lists in the same order: a plain law.
-/
import Derived.Test.YtkkkldhilofgmaaPur
namespace Go.Proofs.Ytkkkldhilofgmaa

/-- f for a, a + 1, .. (c times) -/
def rng {σ : Type} (f : Nat → σ → σ) (a : Nat) : Nat → σ → σ
  | 0, s => s
  | c + 1, s => f (a + c) (rng f a c s)
theorem rng_first {σ : Type} (f : Nat → σ → σ) (a : Nat) : ∀ (c : Nat) (s : σ), rng f a (c + 1) s = rng f (a + 1) c (f a s)
  | 0, _ => rfl
  | c + 1, s => by
    show f (a + (c + 1)) (rng f a (c + 1) s) = f (a + 1 + c) (rng f (a + 1) c (f a s))
    rw [rng_first f a c s, show a + (c + 1) = a + 1 + c by omega]
theorem rng_congr {σ : Type} {f f' : Nat → σ → σ} (a : Nat) : ∀ (c : Nat) (s : σ), (∀ j s, j < a + c → f j s = f' j s) → rng f a c s = rng f' a c s
  | 0, _, _ => rfl
  | c + 1, s, h => by
    show f (a + c) (rng f a c s) = f' (a + c) (rng f' a c s)
    rw [rng_congr a c s fun j s hj => h j s (by omega), h _ _ (by omega)]
theorem rng_id {σ : Type} {f : Nat → σ → σ} (a : Nat) : ∀ (c : Nat) (s : σ), (∀ j, j < a + c → f j s = s) → rng f a c s = s
  | 0, _, _ => rfl
  | c + 1, s, h => by
    show f (a + c) (rng f a c s) = s
    rw [rng_id a c s fun j hj => h j (by omega), h _ (by omega)]

def dset (g : Nat → Nat) (k v : Nat) : Nat → Nat := fun i => if i = k then v else g i
theorem dset_at (g : Nat → Nat) (k v : Nat) : dset g k v k = v := if_pos rfl
theorem dset_ne {g : Nat → Nat} {k v i : Nat} (h : i ≠ k) : dset g k v i = g i := if_neg h
theorem dset_id {g : Nat → Nat} {k v : Nat} (h : g k = v) : dset g k v = g := funext fun i => by
  unfold dset
  split
  · rename_i e; rw [e, h]
  · rfl
theorem dset_dset (g : Nat → Nat) (k v w : Nat) : dset (dset g k v) k w = dset g k w := funext fun i => by
  unfold dset
  split <;> rfl

section
variable {σ : Type} (n : Nat) (wd : Nat → Nat) (u : (Nat → Nat) → σ → σ)

/-- all lists that begin with the first n - m digits of g, in order -/
def dfs : Nat → (Nat → Nat) → σ → σ
  | 0, g, s => u g s
  | m + 1, g, s => rng (fun j s => dfs m (dset g (n - m - 1) j) s) 0 (wd (n - m - 1)) s
/-- all lists behind those that begin with the first k digits of g -/
def aft : Nat → (Nat → Nat) → σ → σ
  | 0, _, s => s
  | k + 1, g, s => aft k g (rng (fun j s => dfs n wd u (n - k - 1) (dset g k j) s) (g k + 1) (wd k - (g k + 1)) s)

variable {n wd u}
theorem dfs_congr : ∀ {m : Nat} {g g' : Nat → Nat} {s : σ}, m ≤ n → (∀ i, (i < n - m ∨ n ≤ i) → g i = g' i) → dfs n wd u m g s = dfs n wd u m g' s
  | 0, g, g', s, _, h => by
    rw [show g = g' from funext fun i => h i (by omega)]
  | m + 1, g, g', s, hm, h => by
    refine rng_congr 0 _ _ fun j s _ => dfs_congr (by omega) fun i hi => ?_
    unfold dset
    split
    · rfl
    · exact h i (by omega)
theorem aft_congr : ∀ {k : Nat} {g g' : Nat → Nat} {s : σ}, k ≤ n → (∀ i, (i < k ∨ n ≤ i) → g i = g' i) → aft n wd u k g s = aft n wd u k g' s
  | 0, _, _, _, _, _ => rfl
  | k + 1, g, g', s, hk, h => by
    show aft n wd u k g _ = aft n wd u k g' _
    rw [h k (by omega), aft_congr (k := k) (g := g) (g' := g') (by omega) fun i hi => h i (by omega)]
    congr 1
    refine rng_congr _ _ _ fun j s _ => dfs_congr (by omega) fun i hi => ?_
    unfold dset
    split
    · rfl
    · exact h i (by omega)
/-- nothing changes below -/
theorem dfs_skip : ∀ {m : Nat} {g : Nat → Nat} {s : σ}, m ≤ n → (∀ g', (∀ i, i < n - m → g' i = g i) → u g' s = s) → dfs n wd u m g s = s
  | 0, g, s, _, h => h g fun _ _ => rfl
  | m + 1, g, s, hm, h => by
    refine rng_id 0 _ _ fun j _ => dfs_skip (by omega) fun g' hg => h g' fun i hi => ?_
    rw [hg i (by omega), dset_ne (by omega)]
theorem aft_down (hw : ∀ k, k < n → 0 < wd k) : ∀ {m k : Nat} {g : Nat → Nat} {s : σ}, k + m = n → (∀ i, k ≤ i → i < n → g i = 0) → aft n wd u k g (dfs n wd u m g s) = aft n wd u n g (u g s)
  | 0, k, g, s, hk, _ => by
    obtain rfl : k = n := hk
    rfl
  | m + 1, k, g, s, hk, h => by
    have hk0 := h k (Nat.le_refl k) (by omega)
    have hw0 := hw k (by omega)
    rw [← aft_down hw (m := m) (k := k + 1) (g := g) (s := s) (by omega) fun i h1 h2 => h i (by omega) h2]
    show aft n wd u k g (rng _ 0 (wd (n - m - 1)) s) = aft n wd u k g (rng _ (g k + 1) (wd k - (g k + 1)) _)
    rw [show n - m - 1 = k by omega, show n - k - 1 = m by omega, hk0]
    obtain ⟨c, hc⟩ : ∃ c, wd k = c + 1 := ⟨wd k - 1, by omega⟩
    rw [hc, rng_first, dset_id hk0]
    rfl
/-- the first list -/
theorem aft_start (hw : ∀ k, k < n → 0 < wd k) {z : Nat → Nat} (hz : ∀ i, i < n → z i = 0) {s : σ} : aft n wd u n z (u z s) = dfs n wd u n z s :=
  (aft_down hw (m := n) (k := 0) (g := z) (s := s) (by omega) fun i _ h => hz i h).symm
/-- a digit that cannot grow is set back -/
theorem aft_back {k : Nat} {g : Nat → Nat} {s : σ} (hk : k < n) (h : g k + 1 = wd k) : aft n wd u (k + 1) g s = aft n wd u k (dset g k 0) s := by
  show aft n wd u k g (rng _ _ (wd k - (g k + 1)) s) = _
  rw [h, Nat.sub_self]
  exact aft_congr (by omega) fun i hi => (dset_ne (by omega)).symm
/-- a digit grows -/
theorem aft_next (hw : ∀ k, k < n → 0 < wd k) {k : Nat} {g : Nat → Nat} {s : σ} (hk : k < n) (h : g k + 1 < wd k) (h0 : ∀ i, k < i → i < n → g i = 0) :
    aft n wd u (k + 1) g s = aft n wd u n (dset g k (g k + 1)) (u (dset g k (g k + 1)) s) := by
  rw [← aft_down hw (m := n - k - 1) (k := k + 1) (g := dset g k (g k + 1)) (s := s) (by omega) fun i h1 h2 => by rw [dset_ne (by omega)]; exact h0 i (by omega) h2]
  show aft n wd u k g (rng _ _ (wd k - (g k + 1)) s) = aft n wd u k (dset g k (g k + 1)) (rng _ (dset g k (g k + 1) k + 1) (wd k - (dset g k (g k + 1) k + 1)) _)
  rw [dset_at]
  obtain ⟨c, hc⟩ : ∃ c, wd k - (g k + 1) = c + 1 := ⟨wd k - (g k + 1) - 1, by omega⟩
  rw [hc, rng_first, show wd k - (g k + 1 + 1) = c by omega]
  refine Eq.trans ?_ (aft_congr (by omega) fun i hi => (dset_ne (g := g) (k := k) (v := g k + 1) (by omega)).symm)
  congr 1
  exact rng_congr _ _ _ fun j s _ => by rw [dset_dset]
end

/-- how many lists are left, at most -/
def left (wd : Nat → Nat) : Nat → (Nat → Nat) → Nat
  | 0, _ => 0
  | k + 1, g => left wd k g * 13 + (wd k - 1 - g k)
theorem left_congr {wd : Nat → Nat} : ∀ {k : Nat} {g g' : Nat → Nat}, (∀ i, i < k → g i = g' i) → left wd k g = left wd k g'
  | 0, _, _, _ => rfl
  | k + 1, g, g', h => by
    show left wd k g * 13 + (wd k - 1 - g k) = left wd k g' * 13 + (wd k - 1 - g' k)
    rw [h k (by omega), left_congr (k := k) fun i hi => h i (by omega)]
theorem left_lt {wd : Nat → Nat} {k : Nat} {g g' : Nat → Nat} (hw : ∀ i, wd i ≤ 12) (h : ∀ i, i < k → g' i = g i) (hk : g' k = g k + 1) (hg : g k + 1 < wd k) : ∀ {n : Nat}, k < n → left wd n g' < left wd n g
  | 0, h9 => absurd h9 (Nat.not_lt_zero _)
  | n + 1, h9 => by
    show left wd n g' * 13 + (wd n - 1 - g' n) < left wd n g * 13 + (wd n - 1 - g n)
    have h12 := hw n
    by_cases e : k = n
    · subst e
      rw [left_congr h, hk]
      omega
    · have := left_lt hw h hk hg (n := n) (by omega)
      omega
end Go.Proofs.Ytkkkldhilofgmaa
