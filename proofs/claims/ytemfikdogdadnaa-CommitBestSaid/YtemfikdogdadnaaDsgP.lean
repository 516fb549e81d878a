/-
  The best pattern of on and off of a generator at prices: plain laws.
-/
import Derived.Test.YtemfikdogdadnaaRbQ
import Derived.Test.YtemfikdogdadnaaComU
import Derived.Test.YtemfikdogdadnaaUnitRun
namespace Go.Proofs.Ytemfikdogdadnaa
open Go.RowKit

/-- what a power earns at a price -/
def prof (p q : Nat → Int) (m : Nat) (t y : Int) : Int := S (fun i => fl p y i * (t - q i)) m
theorem prof_sum (p q : Nat → Int) (t y : Int) : ∀ m, S (fun i => fl p y i * (t - q i)) m = t * S (fl p y) m - S (ct p q y) m
  | 0 => by
    show (0 : Int) = t * 0 - 0
    omega
  | m + 1 => by
    have ih := prof_sum p q t y m
    have e : ct p q y m = fl p y m * q m := rfl
    simp only [S]
    rw [ih, e, Int.mul_add, Int.mul_sub, Int.mul_comm (fl p y m) t]
    omega
theorem prof_eq {p q : Nat → Int} {m : Nat} (hp : ∀ j, j < m → 0 ≤ p j) {y : Int} (t : Int) (h0 : 0 ≤ y) (h1 : y ≤ S p m) : t * y - S (ct p q y) m = prof p q m t y := by
  unfold prof
  rw [prof_sum, fl_S hp h0 _ (Nat.le_refl _), show min y (S p m) = y by omega]
/-- where the steps below a price end -/
theorem sup_cut {m : Nat} {p q : Nat → Int} (h : okOff m p q) (t : Int) : ∃ a, a ≤ m ∧ (∀ j, j < m → (q j < t ↔ j < a)) ∧ S (SP1 p q t) m = S p a := by
  obtain ⟨a, ha, hP⟩ := down (fun j => q j < t) m fun j hj hlt => by
    have := h.2.2.1 j hj
    show q j < t
    have hlt : q (j + 1) < t := hlt
    omega
  refine ⟨a, ha, hP, ?_⟩
  have key : ∀ k, k ≤ m → S (SP1 p q t) k = S p (min k a) := fun k => by
    induction k with
    | zero => intro _; rw [Nat.zero_min]; rfl
    | succ k ih =>
      intro hk
      have h1 := ih (by omega)
      have h2 := hP k (by omega)
      simp only [S]
      rw [h1]
      unfold SP1
      by_cases hlt : k < a
      · rw [if_pos (h2.2 hlt), show min k a = k by omega, show min (k + 1) a = k + 1 by omega]
        rfl
      · rw [if_neg (fun hh => hlt (h2.1 hh)), show min (k + 1) a = min k a by omega, Int.add_zero]
  rw [key m (Nat.le_refl _), show min m a = a by omega]
/-- the best power is the supply, or the least one -/
theorem prof_best {m a : Nat} {p q : Nat → Int} {t le y : Int} (h : okOff m p q) (ha : a ≤ m) (hP : ∀ j, j < m → (q j < t ↔ j < a)) (h0 : le ≤ y) : prof p q m t y ≤ prof p q m t (max (S p a) le) := by
  refine S_leQ fun i hi => ?_
  have hp := (h.2.1 i hi).1
  have hb := hP i hi
  have hb1 := fl_b (p := p) (x := y) (j := i) (by omega)
  have hb2 := fl_b (p := p) (x := max (S p a) le) (j := i) (by omega)
  have hmn : ∀ z, z < m → 0 ≤ p z := fun z hz => by have := (h.2.1 z hz).1; omega
  by_cases hia : i < a
  · have h1 := hb.2 hia
    have h2 : S p (i + 1) ≤ S p a := S_mono (fun z hz => hmn z (by omega)) hia
    have h3 : S p (i + 1) = S p i + p i := rfl
    have h4 : fl p (max (S p a) le) i = p i := by unfold fl; omega
    rw [h4]
    exact Int.mul_le_mul_of_nonneg_right hb1.2 (by omega)
  · have h1 : ¬ q i < t := fun hh => hia (hb.1 hh)
    have h2 : S p a ≤ S p i := S_mono (fun z hz => hmn z (by omega)) (by omega)
    have h4 : fl p (max (S p a) le) i ≤ fl p y i := by unfold fl; omega
    exact Int.mul_le_mul_of_nonpos_right h4 (by omega)

/-- bit t of a pattern; the powers of a pattern -/
def bt (b t : Nat) : Int := andI .i64 (shrI .i64 b t) 1
def pw (P : Nat → Int) (b t : Nat) : Int := if bt b t = 1 then P t else -1
section
variable {r : Rul} {u : US} {sc sc' : Nat → Int}
/-- powers within the limits matter neither for the errors nor for the costs of starts -/
theorem run_sim (hr : okR r) (hup : r.mo ≤ r.up) (hdn : r.mo ≤ r.dn) (hu : u.on = true → r.le ≤ u.po ∧ u.po ≤ r.mo) (hs : ∀ k, (sc k = -1 ∧ sc' k = -1) ∨ ((r.le ≤ sc k ∧ sc k ≤ r.mo) ∧ r.le ≤ sc' k ∧ sc' k ≤ r.mo)) :
    ∀ k, (stt r u sc k).on = (stt r u sc' k).on ∧ (stt r u sc k).si = (stt r u sc' k).si ∧ ((stt r u sc k).on = true → r.le ≤ (stt r u sc k).po ∧ (stt r u sc k).po ≤ r.mo) ∧ ((stt r u sc' k).on = true → r.le ≤ (stt r u sc' k).po ∧ (stt r u sc' k).po ≤ r.mo) ∧ eAt r u sc k = eAt r u sc' k ∧ cAt r u sc k = cAt r u sc' k := by
  have hr0 := hr
  unfold okR at hr0
  have key : ∀ (on : Bool) (si po po' x x' : Int), (on = true → r.le ≤ po ∧ po ≤ r.mo) → (on = true → r.le ≤ po' ∧ po' ≤ r.mo) → ((x = -1 ∧ x' = -1) ∨ ((r.le ≤ x ∧ x ≤ r.mo) ∧ r.le ≤ x' ∧ x' ≤ r.mo)) →
      nOn r on si po x = nOn r on si po' x' := fun on si po po' x x' h1 h2 h3 => by
    unfold nOn
    rcases h3 with ⟨rfl, rfl⟩ | ⟨h3, h4⟩
    · simp
    · have g1 : ¬ (x ≠ -1 ∧ (x < r.le ∨ r.mo < x)) := by omega
      have g2 : ¬ (x' ≠ -1 ∧ (x' < r.le ∨ r.mo < x')) := by omega
      rw [if_neg g1, if_neg g2]
      have g3 : ¬ (on = true ∧ x ≠ -1 ∧ (x < po - r.dn ∨ po + r.up < x)) := fun ⟨h5, _, h6⟩ => by have := h1 h5; omega
      have g4 : ¬ (on = true ∧ x' ≠ -1 ∧ (x' < po' - r.dn ∨ po' + r.up < x')) := fun ⟨h5, _, h6⟩ => by have := h2 h5; omega
      rw [if_neg g3, if_neg g4]
      have e1 : x ≠ -1 := by omega
      have e2 : x' ≠ -1 := by omega
      simp [e1, e2]
  have hd : ∀ k, (sc k ≠ -1 ↔ sc' k ≠ -1) := fun k => by have := hs k; omega
  have ed : ∀ k, decide (sc k ≠ -1) = decide (sc' k ≠ -1) := fun k => by rw [decide_eq_decide]; exact hd k
  intro k
  induction k with
  | zero =>
    refine ⟨rfl, rfl, hu, hu, ?_, ?_⟩
    · exact key u.on u.si u.po u.po (sc 0) (sc' 0) hu hu (hs 0)
    · have e := key u.on u.si u.po u.po (sc 0) (sc' 0) hu hu (hs 0)
      show nC r u.on u.si u.po (sc 0) = nC r u.on u.si u.po (sc' 0)
      unfold nC
      rw [e]
      have h1 := hd 0
      by_cases h2 : sc 0 ≠ -1
      · simp [h2, h1.1 h2]
      · have h3 : sc 0 = -1 := by omega
        have h4 : sc' 0 = -1 := by omega
        rw [h3, h4]
  | succ k ih =>
    obtain ⟨i1, i2, i3, i4, i5, i6⟩ := ih
    have o1 : (stt r u sc (k + 1)).on = (stt r u sc' (k + 1)).on := by
      show nB r _ _ _ (sc k) = nB r _ _ _ (sc' k)
      have i5 : nOn r (stt r u sc k).on (stt r u sc k).si (stt r u sc k).po (sc k) = nOn r (stt r u sc' k).on (stt r u sc' k).si (stt r u sc' k).po (sc' k) := i5
      unfold nB
      rw [i5, ed k]
    have o2 : (stt r u sc (k + 1)).si = (stt r u sc' (k + 1)).si := by
      show nS r _ _ _ (sc k) = nS r _ _ _ (sc' k)
      have i5 : nOn r (stt r u sc k).on (stt r u sc k).si (stt r u sc k).po (sc k) = nOn r (stt r u sc' k).on (stt r u sc' k).si (stt r u sc' k).po (sc' k) := i5
      unfold nS
      rw [i5, ed k, i1, i2]
    have o3 : ∀ (sc : Nat → Int), (sc k = -1 ∨ (r.le ≤ sc k ∧ sc k ≤ r.mo)) → (stt r u sc (k + 1)).on = true → r.le ≤ (stt r u sc (k + 1)).po ∧ (stt r u sc (k + 1)).po ≤ r.mo := fun sc h h9 => by
      have h9 : nB r (stt r u sc k).on (stt r u sc k).si (stt r u sc k).po (sc k) = true := h9
      show r.le ≤ nP r _ _ _ (sc k) ∧ nP r _ _ _ (sc k) ≤ r.mo
      unfold nB at h9
      unfold nP
      split at h9
      · rename_i hz
        have h8 : sc k ≠ -1 := of_decide_eq_true h9
        rw [if_pos hz, if_pos h8]
        omega
      · cases h9
    have q3 := o3 sc (by have := hs k; omega)
    have q4 := o3 sc' (by have := hs k; omega)
    have e : eAt r u sc (k + 1) = eAt r u sc' (k + 1) := by
      show nOn r (stt r u sc (k + 1)).on (stt r u sc (k + 1)).si (stt r u sc (k + 1)).po (sc (k + 1)) = nOn r (stt r u sc' (k + 1)).on (stt r u sc' (k + 1)).si (stt r u sc' (k + 1)).po (sc' (k + 1))
      rw [← o1, ← o2]
      exact key _ _ _ _ _ _ q3 (fun h => q4 (by rw [← o1]; exact h)) (hs (k + 1))
    refine ⟨o1, o2, q3, q4, e, ?_⟩
    have e' : nOn r (stt r u sc (k + 1)).on (stt r u sc (k + 1)).si (stt r u sc (k + 1)).po (sc (k + 1)) = nOn r (stt r u sc' (k + 1)).on (stt r u sc' (k + 1)).si (stt r u sc' (k + 1)).po (sc' (k + 1)) := e
    show nC r _ _ _ (sc (k + 1)) = nC r _ _ _ (sc' (k + 1))
    unfold nC
    rw [e', o1]
    have h1 := hd (k + 1)
    by_cases h2 : sc (k + 1) ≠ -1
    · simp [h2, h1.1 h2]
    · have h3 : sc (k + 1) = -1 := by omega
      have h4 : sc' (k + 1) = -1 := by omega
      rw [h3, h4]
end
theorem fst_congr {e e' : Nat → Int} : ∀ {n : Nat}, (∀ k, k < n → e k = e' k) → fst e n = fst e' n
  | 0, _ => rfl
  | n + 1, h => by
    simp only [fst]
    rw [fst_congr fun k hk => h k (by omega), h n (by omega)]
/-- staying as it is, is permitted -/
theorem stay_on {r : Rul} {u : US} {sc : Nat → Int} {n : Nat} (hr : okR r) (hup : r.mo ≤ r.up) (hdn : r.mo ≤ r.dn) (ho : u.on = true) (hu : r.le ≤ u.po ∧ u.po ≤ r.mo) (hs : ∀ k, k < n → sc k = r.le) : fst (eAt r u sc) n = 0 := by
  have hr0 := hr
  unfold okR at hr0
  have key : ∀ k, k ≤ n → ((stt r u sc k).on = true ∧ r.le ≤ (stt r u sc k).po ∧ (stt r u sc k).po ≤ r.mo) ∧ (k < n → eAt r u sc k = 0) := fun k => by
    have hz : ∀ k, k < n → ((stt r u sc k).on = true ∧ r.le ≤ (stt r u sc k).po ∧ (stt r u sc k).po ≤ r.mo) → nOn r (stt r u sc k).on (stt r u sc k).si (stt r u sc k).po (sc k) = 0 := fun k hk ⟨h1, h2, h3⟩ => by
      rw [hs k hk, h1]
      unfold nOn
      rw [if_neg (by omega), if_neg (by rintro (h | h) <;> first | omega | (have := h.1; cases this)), if_neg (by omega)]
    induction k with
    | zero => intro _; exact ⟨⟨ho, hu⟩, fun h => hz 0 h ⟨ho, hu⟩⟩
    | succ k ih =>
      intro hk
      obtain ⟨i1, i2⟩ := ih (by omega)
      have e := hz k (by omega) i1
      have g : (stt r u sc (k + 1)).on = true ∧ r.le ≤ (stt r u sc (k + 1)).po ∧ (stt r u sc (k + 1)).po ≤ r.mo := by
        show nB r _ _ _ (sc k) = true ∧ r.le ≤ nP r _ _ _ (sc k) ∧ nP r _ _ _ (sc k) ≤ r.mo
        unfold nB nP
        rw [if_pos e, if_pos e, hs k (by omega), if_pos (by omega)]
        refine ⟨decide_eq_true (by omega), Int.le_refl _, by omega⟩
      exact ⟨g, fun h => hz (k + 1) h g⟩
  exact fst_of fun k hk => (key k (by omega)).2 hk
theorem stay_off {r : Rul} {u : US} {sc : Nat → Int} {n : Nat} (ho : u.on = false) (hs : ∀ k, k < n → sc k = -1) : fst (eAt r u sc) n = 0 := by
  have hz : ∀ k, k < n → (stt r u sc k).on = false → nOn r (stt r u sc k).on (stt r u sc k).si (stt r u sc k).po (sc k) = 0 := fun k hk h1 => by
    rw [hs k hk, h1]
    unfold nOn
    simp
  have key : ∀ k, k ≤ n → (stt r u sc k).on = false ∧ (k < n → eAt r u sc k = 0) := fun k => by
    induction k with
    | zero => intro _; exact ⟨ho, fun h => hz 0 h ho⟩
    | succ k ih =>
      intro hk
      obtain ⟨i1, i2⟩ := ih (by omega)
      have e := hz k (by omega) i1
      have g : (stt r u sc (k + 1)).on = false := by
        show nB r _ _ _ (sc k) = false
        unfold nB
        rw [if_pos e, hs k (by omega)]
        rfl
      exact ⟨g, fun h => hz (k + 1) h g⟩
  exact fst_of fun k hk => (key k (by omega)).2 hk

/-- the first greatest number of the permitted ones, and its index -/
def dgF (ok : Nat → Bool) (v : Nat → Int) : Nat → Int × Bool
  | 0 => (0, false)
  | i + 1 => if ok i = true ∧ ((dgF ok v i).2 = false ∨ v i > (dgF ok v i).1) then (v i, true) else dgF ok v i
def dgI (ok : Nat → Bool) (v : Nat → Int) : Nat → Nat
  | 0 => 0
  | i + 1 => if ok i = true ∧ ((dgF ok v i).2 = false ∨ v i > (dgF ok v i).1) then i else dgI ok v i
theorem dg_at {ok : Nat → Bool} {v : Nat → Int} : ∀ {N : Nat}, (dgF ok v N).2 = true → dgI ok v N < N ∧ ok (dgI ok v N) = true ∧ (dgF ok v N).1 = v (dgI ok v N)
  | 0, h => by cases h
  | N + 1, h => by
    simp only [dgF, dgI] at h ⊢
    by_cases hc : ok N = true ∧ ((dgF ok v N).2 = false ∨ v N > (dgF ok v N).1)
    · rw [if_pos hc, if_pos hc]
      exact ⟨Nat.lt_succ_self _, hc.1, rfl⟩
    · rw [if_neg hc] at h
      rw [if_neg hc, if_neg hc]
      obtain ⟨h1, h2, h3⟩ := dg_at h
      exact ⟨by omega, h2, h3⟩
theorem dg_some {ok : Nat → Bool} {v : Nat → Int} {i : Nat} (ho : ok i = true) : ∀ {N : Nat}, i < N → (dgF ok v N).2 = true
  | N + 1, h => by
    simp only [dgF]
    split
    · rfl
    · rename_i hc
      rcases Nat.lt_succ_iff_lt_or_eq.1 h with hlt | rfl
      · exact dg_some ho hlt
      · cases h9 : (dgF ok v i).2 with
        | true => rfl
        | false => exact absurd ⟨ho, .inl h9⟩ hc
theorem dgF_congr {ok ok' : Nat → Bool} {v v' : Nat → Int} : ∀ {N : Nat}, (∀ i, i < N → ok i = ok' i ∧ v i = v' i) → dgF ok v N = dgF ok' v' N
  | 0, _ => rfl
  | N + 1, h => by
    simp only [dgF]
    rw [dgF_congr fun i hi => h i (by omega), (h N (by omega)).1, (h N (by omega)).2]
/-- the permitted ones as a list -/
def dgL (ok : Nat → Bool) : Nat → List Nat
  | 0 => []
  | i + 1 => if ok i = true then dgL ok i ++ [i] else dgL ok i
theorem dgL_len (ok : Nat → Bool) : ∀ N, (dgL ok N).length ≤ N
  | 0 => Nat.le_refl _
  | N + 1 => by
    have := dgL_len ok N
    simp only [dgL]
    split
    · simp; omega
    · omega
theorem dgF_list (ok : Nat → Bool) (v : Nat → Int) : ∀ N, dgF (fun _ => true) (fun k => v ((dgL ok N).getD k 0)) (dgL ok N).length = dgF ok v N
  | 0 => rfl
  | N + 1 => by
    have ih := dgF_list ok v N
    by_cases ho : ok N = true
    · have e : dgL ok (N + 1) = dgL ok N ++ [N] := if_pos ho
      rw [e, List.length_append, List.length_singleton]
      have e1 : dgF (fun _ => true) (fun k => v ((dgL ok N ++ [N]).getD k 0)) (dgL ok N).length = dgF ok v N := by
        rw [← ih]
        exact dgF_congr fun i hi => ⟨rfl, by rw [List.getD_eq_getElem?_getD, List.getElem?_append_left hi, ← List.getD_eq_getElem?_getD]⟩
      have e2 : (dgL ok N ++ [N]).getD (dgL ok N).length 0 = N := by
        rw [List.getD_eq_getElem?_getD, List.getElem?_append_right (Nat.le_refl _), Nat.sub_self]
        rfl
      simp only [dgF]
      rw [e1, e2, ho]
      simp
    · have e : dgL ok (N + 1) = dgL ok N := if_neg ho
      rw [e, ih]
      simp only [dgF]
      rw [if_neg fun h => ho h.1]
end Go.Proofs.Ytemfikdogdadnaa
