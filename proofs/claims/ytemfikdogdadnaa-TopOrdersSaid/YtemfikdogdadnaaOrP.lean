/-
  Orders: the plain law of the search: the first shortest path.
-/
import Derived.Test.YtemfikdogdadnaaIlk5
namespace Go.Proofs.Ytemfikdogdadnaa
open Go.RowKit

/-- a path from c: every step is allowed -/
def pok (e : Nat → Nat → Bool) (n : Nat) : Nat → List Nat → Prop
  | _, [] => True
  | c, i :: l => i < n ∧ e c i = true ∧ pok e n (c ^^^ 2 ^ i) l
def pend : Nat → List Nat → Nat
  | c, [] => c
  | c, i :: l => pend (c ^^^ 2 ^ i) l
/-- paths as numbers: shorter ones are less, and so are those that come first -/
def vl : Nat → List Nat → Nat
  | a, [] => a
  | a, i :: l => vl (8 * a + i) l
section
variable {e : Nat → Nat → Bool} {n : Nat}
theorem pok_app : ∀ {l : List Nat} {c i : Nat}, pok e n c (l ++ [i]) ↔ pok e n c l ∧ i < n ∧ e (pend c l) i = true
  | [], c, i => by simp [pok, pend]
  | k :: l, c, i => by
    simp only [List.cons_append, pok, pend, pok_app (l := l)]
    constructor
    · rintro ⟨h1, h2, h3, h4⟩; exact ⟨⟨h1, h2, h3⟩, h4⟩
    · rintro ⟨⟨h1, h2, h3⟩, h4⟩; exact ⟨h1, h2, h3, h4⟩
theorem pend_app : ∀ (l : List Nat) (c i : Nat), pend c (l ++ [i]) = pend c l ^^^ 2 ^ i
  | [], _, _ => rfl
  | k :: l, c, i => pend_app l (c ^^^ 2 ^ k) i
theorem vl_app : ∀ (l : List Nat) (a i : Nat), vl a (l ++ [i]) = 8 * vl a l + i
  | [], _, _ => rfl
  | k :: l, a, i => vl_app l (8 * a + k) i
theorem vl_lt : ∀ {l l' : List Nat} {a a' : Nat}, a < a' → l.length = l'.length → (∀ i, i ∈ l → i < 8) → vl a l < vl a' l'
  | [], [], _, _, h, _, _ => h
  | i :: l, i' :: l', a, a', h, hl, hd => by
    have := hd i List.mem_cons_self
    exact vl_lt (l := l) (l' := l') (by omega) (by simpa using hl) fun k hk => hd k (List.mem_cons_of_mem _ hk)
  | [], _ :: _, _, _, _, hl, _ => by simp at hl
  | _ :: _, [], _, _, _, hl, _ => by simp at hl
theorem vl_mono : ∀ {l : List Nat} {a a' : Nat}, a ≤ a' → vl a l ≤ vl a' l
  | [], _, _, h => h
  | i :: l, a, a', h => vl_mono (l := l) (by omega)
theorem vl_bd : ∀ {l : List Nat} {a : Nat}, (∀ i, i ∈ l → i < 8) → 8 ^ l.length * a ≤ vl a l ∧ vl a l < 8 ^ l.length * (a + 1)
  | [], a, _ => by
    show 8 ^ 0 * a ≤ a ∧ a < 8 ^ 0 * (a + 1)
    omega
  | i :: l, a, h => by
    have hi := h i List.mem_cons_self
    have ih := vl_bd (l := l) (a := 8 * a + i) fun k hk => h k (List.mem_cons_of_mem _ hk)
    have e1 : 8 ^ (i :: l).length * a = 8 ^ l.length * (8 * a) := by rw [List.length_cons, Nat.pow_succ, Nat.mul_assoc]
    have e2 : 8 ^ (i :: l).length * (a + 1) = 8 ^ l.length * (8 * (a + 1)) := by rw [List.length_cons, Nat.pow_succ, Nat.mul_assoc]
    rw [e1, e2]
    have m1 : 8 ^ l.length * (8 * a) ≤ 8 ^ l.length * (8 * a + i) := Nat.mul_le_mul_left _ (by omega)
    have m2 : 8 ^ l.length * (8 * a + i + 1) ≤ 8 ^ l.length * (8 * (a + 1)) := Nat.mul_le_mul_left _ (by omega)
    exact ⟨Nat.le_trans m1 ih.1, Nat.lt_of_lt_of_le ih.2 m2⟩
theorem vl_len {l l' : List Nat} (h : ∀ i, i ∈ l → i < 8) (h' : ∀ i, i ∈ l' → i < 8) (hl : vl 1 l ≤ vl 1 l') : l.length ≤ l'.length := by
  refine Decidable.byContradiction fun hn => ?_
  have h1 := (vl_bd h (a := 1)).1
  have h2 := (vl_bd h' (a := 1)).2
  have h3 : 8 ^ (l'.length + 1) ≤ 8 ^ l.length := Nat.pow_le_pow_right (by decide) (by omega)
  rw [Nat.pow_succ] at h3
  omega
theorem vl_inj : ∀ {l l' : List Nat} {a : Nat}, l.length = l'.length → (∀ i, i ∈ l → i < 8) → (∀ i, i ∈ l' → i < 8) → vl a l = vl a l' → l = l'
  | [], [], _, _, _, _, _ => rfl
  | i :: l, i' :: l', a, hl, h, h', he => by
    have hl2 : l.length = l'.length := by simpa using hl
    have h1 : ∀ k, k ∈ l → k < 8 := fun k hk => h k (List.mem_cons_of_mem _ hk)
    have h2 : ∀ k, k ∈ l' → k < 8 := fun k hk => h' k (List.mem_cons_of_mem _ hk)
    have he : vl (8 * a + i) l = vl (8 * a + i') l' := he
    rcases Nat.lt_trichotomy i i' with c | c | c
    · have := vl_lt (l := l) (l' := l') (show 8 * a + i < 8 * a + i' by omega) hl2 h1; omega
    · subst c; rw [vl_inj hl2 h1 h2 he]
    · have := vl_lt (l := l') (l' := l) (show 8 * a + i' < 8 * a + i by omega) hl2.symm h2; omega
  | [], _ :: _, _, hl, _, _, _ => by simp at hl
  | _ :: _, [], _, hl, _, _, _ => by simp at hl
theorem vl_eq {l l' : List Nat} (h : ∀ i, i ∈ l → i < 8) (h' : ∀ i, i ∈ l' → i < 8) (he : vl 1 l = vl 1 l') : l = l' := vl_inj (Nat.le_antisymm (vl_len h h' (by omega)) (vl_len h' h (by omega))) h h' he
theorem pok_dig {c : Nat} : ∀ {l : List Nat} {c : Nat}, pok e n c l → ∀ i, i ∈ l → i < n
  | [], _, _, i, hi => absurd hi List.not_mem_nil
  | k :: l, c, h, i, hi => by
    rcases List.mem_cons.1 hi with rfl | hi
    · exact h.1
    · exact pok_dig (c := c) h.2.2 i hi
theorem nodup_len : ∀ {m : Nat} {l : List Nat}, l.Nodup → (∀ x, x ∈ l → x < m) → l.length ≤ m
  | 0, [], _, _ => Nat.le_refl _
  | 0, x :: _, _, h => absurd (h x List.mem_cons_self) (Nat.not_lt_zero _)
  | m + 1, l, hn, h => by
    by_cases hm : m ∈ l
    · have h1 := nodup_len (m := m) (l := l.erase m) (hn.erase m) fun x hx => by
        have h2 := h x (List.mem_of_mem_erase hx)
        have h3 : x ≠ m := fun e => by subst e; exact hn.not_mem_erase hx
        omega
      have h4 := List.length_erase_of_mem hm
      omega
    · have h1 := nodup_len (m := m) hn fun x hx => by
        have h2 := h x hx
        have h3 : x ≠ m := fun e => by subst e; exact hm hx
        omega
      omega
end
/-- the search: all that is found, in order; h are done, and of the next one i switches -/
structure Bf (e : Nat → Nat → Bool) (n c0 : Nat) (D : List Nat) (by_ : Nat → Int) (Pl : Nat → List Nat) (h i : Nat) : Prop where
  nd : D.Nodup
  lt : ∀ c, c ∈ D → c < 2 ^ n
  hd : D[0]? = some c0
  no : ∀ c, c < 256 → (by_ c = -2 ↔ ¬ c ∈ D)
  rt : by_ c0 = -1
  p0 : Pl c0 = []
  pa : ∀ (k c : Nat), D[k]? = some c → 0 < k → ∃ i' j p, i' < n ∧ by_ c = (i' : Int) ∧ D[j]? = some p ∧ (j < h ∨ j = h ∧ i' < i) ∧ c = p ^^^ 2 ^ i' ∧ e p i' = true ∧ Pl c = Pl p ++ [i']
  od : ∀ (j k a b : Nat), j < k → D[j]? = some a → D[k]? = some b → vl 1 (Pl a) < vl 1 (Pl b)
  cm : ∀ (j p i' : Nat), (j < h ∨ j = h ∧ i' < i) → i' < n → D[j]? = some p → e p i' = true → p ^^^ 2 ^ i' ∈ D ∧ vl 1 (Pl (p ^^^ 2 ^ i')) ≤ 8 * vl 1 (Pl p) + i'
section
variable {e : Nat → Nat → Bool} {n c0 : Nat} {D : List Nat} {by_ : Nat → Int} {Pl : Nat → List Nat} {h i : Nat}
theorem Bf.start (hn : n ≤ 8) (hc : c0 < 2 ^ n) : Bf e n c0 [c0] (fun k => if k = c0 then -1 else -2) (fun _ => []) 0 0 := by
  refine ⟨by simp, fun c h => by rw [List.mem_singleton.1 h]; exact hc, rfl, fun c _ => ?_, if_pos rfl, rfl, fun k c hk h0 => ?_, fun j k a b hjk _ hb => ?_, fun j p i' h1 => by omega⟩
  · by_cases e : c = c0
    · rw [if_pos e]; simp [e]
    · rw [if_neg e]; simp [e]
  · obtain ⟨k, rfl⟩ : ∃ q, k = q + 1 := ⟨k - 1, by omega⟩
    simp at hk
  · obtain ⟨k, rfl⟩ : ∃ q, k = q + 1 := ⟨k - 1, by omega⟩
    simp at hb
theorem Bf.next (B : Bf e n c0 D by_ Pl h n) : Bf e n c0 D by_ Pl (h + 1) 0 := by
  refine ⟨B.nd, B.lt, B.hd, B.no, B.rt, B.p0, fun k c hk h0 => ?_, B.od, fun j p i' h1 h2 => B.cm j p i' (by omega) h2⟩
  obtain ⟨i', j, p, h1, h2, h3, h4, h5⟩ := B.pa k c hk h0
  exact ⟨i', j, p, h1, h2, h3, by omega, h5⟩
theorem vl_pos : ∀ (l : List Nat) (a : Nat), a ≤ vl a l
  | [], _ => Nat.le_refl _
  | i :: l, a => Nat.le_trans (by omega) (vl_pos l (8 * a + i))
/-- what is found already comes before a new one -/
theorem Bf.old (hn : n ≤ 8) (B : Bf e n c0 D by_ Pl h i) {p c : Nat} (hp : D[h]? = some p) {k : Nat} (hk : D[k]? = some c) : vl 1 (Pl c) < 8 * vl 1 (Pl p) + i := by
  have h1 := vl_pos (Pl p) 1
  rcases Nat.eq_zero_or_pos k with rfl | h0
  · rw [B.hd] at hk
    injection hk with hk
    subst hk
    rw [B.p0]
    show 1 < _
    omega
  · obtain ⟨i', j, q, q1, q2, q3, q4, q5, q6, q7⟩ := B.pa k c hk h0
    rw [q7, vl_app]
    rcases q4 with q4 | ⟨rfl, q4⟩
    · have := B.od j h q p q4 q3 hp
      omega
    · rw [hp] at q3
      injection q3 with q3
      subst q3
      omega
theorem Bf.wide (B : Bf e n c0 D by_ Pl h i) (hc : ∀ p, D[h]? = some p → i < n → e p i = true → p ^^^ 2 ^ i ∈ D ∧ vl 1 (Pl (p ^^^ 2 ^ i)) ≤ 8 * vl 1 (Pl p) + i) : Bf e n c0 D by_ Pl h (i + 1) := by
  refine ⟨B.nd, B.lt, B.hd, B.no, B.rt, B.p0, fun k c hk h0 => ?_, B.od, fun j p i' h1 h2 h3 h4 => ?_⟩
  · obtain ⟨i', j, p, h1, h2, h3, h4, h5⟩ := B.pa k c hk h0
    exact ⟨i', j, p, h1, h2, h3, by omega, h5⟩
  · by_cases hx : j < h ∨ j = h ∧ i' < i
    · exact B.cm j p i' hx h2 h3 h4
    · obtain ⟨rfl, rfl⟩ : j = h ∧ i' = i := by omega
      exact hc p h3 h2 h4
theorem Bf.skip (B : Bf e n c0 D by_ Pl h i) {p : Nat} (hp : D[h]? = some p) (he : e p i = false) : Bf e n c0 D by_ Pl h (i + 1) := B.wide fun q hq _ h2 => by
  rw [hp] at hq
  injection hq with hq
  subst hq
  rw [he] at h2
  cases h2
theorem Bf.seen (hn : n ≤ 8) (B : Bf e n c0 D by_ Pl h i) {p : Nat} (hp : D[h]? = some p) (hm : p ^^^ 2 ^ i ∈ D) : Bf e n c0 D by_ Pl h (i + 1) := B.wide fun q hq _ _ => by
  rw [hp] at hq
  injection hq with hq
  subst hq
  obtain ⟨k, hk, ek⟩ := List.getElem_of_mem hm
  exact ⟨hm, Nat.le_of_lt (B.old hn hp (k := k) (by rw [List.getElem?_eq_getElem hk, ek]))⟩
theorem xor_lt {p i n : Nat} (hp : p < 2 ^ n) (hi : i < n) : p ^^^ 2 ^ i < 2 ^ n := Nat.xor_lt_two_pow hp (Nat.pow_lt_pow_right (by decide) hi)
def set1 {α : Type} (f : Nat → α) (c : Nat) (x : α) : Nat → α := fun k => if k = c then x else f k
theorem Bf.add (hn : n ≤ 8) (B : Bf e n c0 D by_ Pl h i) {p : Nat} (hp : D[h]? = some p) (hi : i < n) (he : e p i = true) (hm : ¬ p ^^^ 2 ^ i ∈ D) : Bf e n c0 (D ++ [p ^^^ 2 ^ i]) (set1 by_ (p ^^^ 2 ^ i) (i : Int)) (set1 Pl (p ^^^ 2 ^ i) (Pl p ++ [i])) h (i + 1) := by
  have hmem : ∀ {k c : Nat}, D[k]? = some c → c ∈ D := fun h => List.mem_of_getElem? h
  have hne : ∀ {c : Nat}, c ∈ D → ¬ c = p ^^^ 2 ^ i := fun h e => hm (e ▸ h)
  have hpD := hmem hp
  have hplt := B.lt p hpD
  have hPl : ∀ {c : Nat}, c ∈ D → set1 Pl (p ^^^ 2 ^ i) (Pl p ++ [i]) c = Pl c := fun h => if_neg (hne h)
  have hby : ∀ {c : Nat}, c ∈ D → set1 by_ (p ^^^ 2 ^ i) (i : Int) c = by_ c := fun h => if_neg (hne h)
  have hnew : set1 Pl (p ^^^ 2 ^ i) (Pl p ++ [i]) (p ^^^ 2 ^ i) = Pl p ++ [i] := if_pos rfl
  have hD : ∀ {k c : Nat}, (D ++ [p ^^^ 2 ^ i])[k]? = some c → D[k]? = some c ∨ (k = D.length ∧ c = p ^^^ 2 ^ i) := fun {k c} h => by
    rcases Nat.lt_or_ge k D.length with hk | hk
    · rw [List.getElem?_append_left hk] at h; exact .inl h
    · rw [List.getElem?_append_right hk] at h
      have hl := (List.getElem?_eq_some_iff.1 h).1
      have e0 : k - D.length = 0 := by simp at hl; omega
      rw [e0] at h
      injection h with h
      exact .inr ⟨by omega, h.symm⟩
  have hkeep : ∀ {k c : Nat}, D[k]? = some c → (D ++ [p ^^^ 2 ^ i])[k]? = some c := fun {k c} h => by
    rw [List.getElem?_append_left (List.getElem?_eq_some_iff.1 h).1]; exact h
  have h0m : c0 ∈ D := hmem B.hd
  refine ⟨?_, fun c hc => ?_, hkeep B.hd, fun c hc => ?_, (hby h0m).trans B.rt, (hPl h0m).trans B.p0, fun k c hk h0 => ?_, fun j k a b hjk ha hb => ?_, fun j q i' h1 h2 h3 h4 => ?_⟩
  · refine List.nodup_append.2 ⟨B.nd, by simp, fun a ha b hb e => ?_⟩
    rw [List.mem_singleton.1 hb] at e
    exact hne ha e
  · rcases List.mem_append.1 hc with h | h
    · exact B.lt c h
    · rw [List.mem_singleton.1 h]; exact xor_lt hplt hi
  · unfold set1
    by_cases e : c = p ^^^ 2 ^ i
    · rw [if_pos e]
      constructor
      · intro h; omega
      · intro h; exact absurd (List.mem_append_right _ (List.mem_singleton.2 e)) h
    · rw [if_neg e, B.no c hc]
      refine not_congr ⟨fun h => List.mem_append_left _ h, fun h => ?_⟩
      rcases List.mem_append.1 h with h | h
      · exact h
      · exact absurd (List.mem_singleton.1 h) e
  · rcases hD hk with hk | ⟨rfl, rfl⟩
    · obtain ⟨i', j, q, q1, q2, q3, q4, q5, q6, q7⟩ := B.pa k c hk h0
      exact ⟨i', j, q, q1, by rw [hby (hmem hk)]; exact q2, hkeep q3, by omega, q5, q6, by rw [hPl (hmem hk), hPl (hmem q3)]; exact q7⟩
    · exact ⟨i, h, p, hi, if_pos rfl, hkeep hp, .inr ⟨rfl, Nat.lt_succ_self _⟩, rfl, he, by rw [hnew, hPl hpD]⟩
  · rcases hD hb with hb | ⟨rfl, rfl⟩
    · have hlt := (List.getElem?_eq_some_iff.1 hb).1
      rcases hD ha with ha | ⟨rfl, _⟩
      · rw [hPl (hmem ha), hPl (hmem hb)]
        exact B.od j k a b hjk ha hb
      · omega
    · rcases hD ha with ha | ⟨rfl, _⟩
      · rw [hPl (hmem ha), hnew, vl_app]
        exact B.old hn hp ha
      · omega
  · have hle : ∀ {k c : Nat}, D[k]? = some c → k < D.length := fun h => (List.getElem?_eq_some_iff.1 h).1
    have hhl := hle hp
    rcases hD h3 with k3 | ⟨rfl, _⟩
    · by_cases hx : j < h ∨ j = h ∧ i' < i
      · obtain ⟨r1, r2⟩ := B.cm j q i' hx h2 k3 h4
        exact ⟨List.mem_append_left _ r1, by rw [hPl r1, hPl (hmem k3)]; exact r2⟩
      · obtain ⟨rfl, rfl⟩ : j = h ∧ i' = i := by omega
        rw [hp] at k3
        injection k3 with k3
        subst k3
        refine ⟨List.mem_append_right _ (List.mem_singleton.2 rfl), ?_⟩
        rw [hnew, hPl hpD, vl_app]
        exact Nat.le_refl _
    · omega
/-- what the search has found at its end -/
structure Wkd (e : Nat → Nat → Bool) (n c0 : Nat) (by_ : Nat → Int) (Pl : Nat → List Nat) : Prop where
  rt : by_ c0 = -1
  p0 : Pl c0 = []
  pa : ∀ c, c < 2 ^ n → by_ c ≠ -2 → c ≠ c0 → ∃ i, i < n ∧ by_ c = (i : Int) ∧ by_ (c ^^^ 2 ^ i) ≠ -2 ∧ e (c ^^^ 2 ^ i) i = true ∧ Pl c = Pl (c ^^^ 2 ^ i) ++ [i]
  best : ∀ l, pok e n c0 l → by_ (pend c0 l) ≠ -2 ∧ vl 1 (Pl (pend c0 l)) ≤ vl 1 l
  len : ∀ c, c < 2 ^ n → by_ c ≠ -2 → (Pl c).length < 2 ^ n
theorem xor_back (c i : Nat) : (c ^^^ 2 ^ i) ^^^ 2 ^ i = c := by rw [Nat.xor_assoc, Nat.xor_self, Nat.xor_zero]
theorem pow_le8 {n : Nat} (hn : n ≤ 8) : 2 ^ n ≤ 256 := Nat.pow_le_pow_right (by decide) hn
theorem Bf.fin (hn : n ≤ 8) (B : Bf e n c0 D by_ Pl D.length 0) : Wkd e n c0 by_ Pl := by
  have h256 := pow_le8 hn
  have hin : ∀ c, c < 2 ^ n → (by_ c ≠ -2 ↔ c ∈ D) := fun c hc => by
    rw [Ne, B.no c (by omega)]
    exact ⟨fun h => Decidable.byContradiction h, fun h k => k h⟩
  have hDl := nodup_len B.nd B.lt
  have key : ∀ (l : List Nat) (c v : Nat), c ∈ D → vl 1 (Pl c) ≤ v → pok e n c l → pend c l ∈ D ∧ vl 1 (Pl (pend c l)) ≤ vl v l := by
    intro l
    induction l with
    | nil => exact fun c v h1 h2 _ => ⟨h1, h2⟩
    | cons i l ih =>
      intro c v h1 h2 h3
      obtain ⟨k, hk, ek⟩ := List.getElem_of_mem h1
      obtain ⟨r1, r2⟩ := B.cm k c i (.inl hk) h3.1 (by rw [List.getElem?_eq_getElem hk, ek]) h3.2.1
      exact ih _ (8 * v + i) r1 (by omega) h3.2.2
  have hk : ∀ k c, D[k]? = some c → (Pl c).length ≤ k := by
    intro k
    induction k using Nat.strongRecOn with
    | ind k ih =>
      intro c hc
      rcases Nat.eq_zero_or_pos k with rfl | h0
      · rw [B.hd] at hc
        injection hc with hc
        subst hc
        rw [B.p0]
        exact Nat.le_refl _
      · obtain ⟨i', j, q, q1, q2, q3, q4, q5, q6, q7⟩ := B.pa k c hc h0
        have hjk : j < k := by
          rcases Nat.lt_trichotomy j k with h | h | h
          · exact h
          · subst h
            rw [hc] at q3
            injection q3 with q3
            subst q3
            have := congrArg List.length q7
            simp at this
          · have h1 := B.od k j c q h hc q3
            rw [q7, vl_app] at h1
            have := vl_pos (Pl q) 1
            omega
        have := ih j hjk q q3
        rw [q7, List.length_append]
        show _ + 1 ≤ k
        omega
  refine ⟨B.rt, B.p0, fun c hc h1 h2 => ?_, fun l hl => ?_, fun c hc h1 => ?_⟩
  · obtain ⟨k, hk, ek⟩ := List.getElem_of_mem ((hin c hc).1 h1)
    have hk0 : 0 < k := by
      rcases Nat.eq_zero_or_pos k with rfl | h
      · have h3 := B.hd
        rw [List.getElem?_eq_getElem hk, ek] at h3
        injection h3 with h3
        exact absurd h3 h2
      · exact h
    obtain ⟨i', j, q, q1, q2, q3, q4, q5, q6, q7⟩ := B.pa k c (by rw [List.getElem?_eq_getElem hk, ek]) hk0
    have e1 : c ^^^ 2 ^ i' = q := by rw [q5, xor_back]
    rw [e1.symm] at q3 q6 q7
    have hm := List.mem_of_getElem? q3
    exact ⟨i', q1, q2, (hin _ (B.lt _ hm)).2 hm, q6, q7⟩
  · have h0 : c0 ∈ D := List.mem_of_getElem? B.hd
    have h1 := key l c0 1 h0 (by rw [B.p0]; exact Nat.le_refl _) hl
    exact ⟨(hin _ (B.lt _ h1.1)).2 h1.1, h1.2⟩
  · obtain ⟨k, hk', ek⟩ := List.getElem_of_mem ((hin c hc).1 h1)
    have := hk k c (by rw [List.getElem?_eq_getElem hk', ek])
    omega
/-- the path is one -/
theorem Wkd.path {by_ : Nat → Int} {Pl : Nat → List Nat} (W : Wkd e n c0 by_ Pl) (hc0 : c0 < 2 ^ n) : ∀ (m c : Nat), (Pl c).length = m → c < 2 ^ n → by_ c ≠ -2 → pok e n c0 (Pl c) ∧ pend c0 (Pl c) = c := by
  intro m
  induction m with
  | zero =>
    intro c hm hc h1
    by_cases e0 : c = c0
    · subst e0
      rw [W.p0]
      exact ⟨trivial, rfl⟩
    · obtain ⟨i, _, _, _, _, q5⟩ := W.pa c hc h1 e0
      rw [q5] at hm
      simp at hm
  | succ m ih =>
    intro c hm hc h1
    by_cases e0 : c = c0
    · subst e0
      rw [W.p0] at hm
      simp at hm
    · obtain ⟨i, q1, q2, q3, q4, q5⟩ := W.pa c hc h1 e0
      have hl : (Pl (c ^^^ 2 ^ i)).length = m := by
        rw [q5, List.length_append] at hm
        have hm : (Pl (c ^^^ 2 ^ i)).length + 1 = m + 1 := hm
        omega
      obtain ⟨r1, r2⟩ := ih _ hl (xor_lt hc q1) q3
      rw [q5, pok_app, pend_app, r2]
      exact ⟨⟨r1, q1, q4⟩, xor_back c i⟩
end
/-- how many switches stand otherwise -/
def apt (c t : Nat) : Nat → Nat
  | 0 => 0
  | i + 1 => apt c t i + if c.testBit i = t.testBit i then 0 else 1
theorem tb_xor (c i j : Nat) : (c ^^^ 2 ^ i).testBit j = (c.testBit j ^^ decide (i = j)) := by rw [Nat.testBit_xor, Nat.testBit_two_pow]
theorem apt_step (c t i : Nat) : ∀ n, apt c t n ≤ apt (c ^^^ 2 ^ i) t n + if i < n then 1 else 0
  | 0 => by simp [apt]
  | n + 1 => by
    have ih := apt_step c t i n
    unfold apt
    rw [tb_xor]
    by_cases h : i = n
    · subst h
      rw [if_neg (Nat.lt_irrefl _)] at ih
      rw [if_pos (Nat.lt_succ_self _)]
      split <;> omega
    · rw [decide_eq_false h, Bool.xor_false]
      generalize (if c.testBit n = t.testBit n then 0 else 1) = z
      by_cases h2 : i < n
      · rw [if_pos h2] at ih; rw [if_pos (by omega)]; omega
      · rw [if_neg h2] at ih; rw [if_neg (by omega)]; omega
theorem apt_self (t : Nat) : ∀ n, apt t t n = 0
  | 0 => rfl
  | n + 1 => by unfold apt; rw [apt_self t n, if_pos rfl]
theorem apt_zero {c t : Nat} : ∀ {n : Nat}, apt c t n = 0 → ∀ i, i < n → c.testBit i = t.testBit i
  | 0, _, i, hi => absurd hi (Nat.not_lt_zero _)
  | n + 1, h, i, hi => by
    unfold apt at h
    have h2 : (if c.testBit n = t.testBit n then 0 else 1) = 0 := by omega
    rcases Nat.lt_succ_iff_lt_or_eq.1 hi with h1 | rfl
    · exact apt_zero (by omega) i h1
    · by_cases hx : c.testBit i = t.testBit i
      · exact hx
      · rw [if_neg hx] at h2; cases h2
theorem bits_eq {c t n : Nat} (hc : c < 2 ^ n) (ht : t < 2 ^ n) (h : ∀ i, i < n → c.testBit i = t.testBit i) : c = t := Nat.eq_of_testBit_eq fun i => by
  rcases Nat.lt_or_ge i n with hi | hi
  · exact h i hi
  · rw [Nat.testBit_lt_two_pow (Nat.lt_of_lt_of_le hc (Nat.pow_le_pow_right (by decide) hi)), Nat.testBit_lt_two_pow (Nat.lt_of_lt_of_le ht (Nat.pow_le_pow_right (by decide) hi))]
theorem apt_path {e : Nat → Nat → Bool} {n : Nat} : ∀ {l : List Nat} {c : Nat}, pok e n c l → apt c (pend c l) n ≤ l.length
  | [], c, _ => by show apt c c n ≤ 0; rw [apt_self]; exact Nat.le_refl _
  | i :: l, c, h => by
    have ih := apt_path (l := l) h.2.2
    have h1 := apt_step c (pend (c ^^^ 2 ^ i) l) i n
    rw [if_pos h.1] at h1
    show apt c (pend (c ^^^ 2 ^ i) l) n ≤ l.length + 1
    omega
/-- the reference: the first path of exactly k steps -/
def frst (g : Nat → Option (List Nat)) : Nat → Nat → Option (List Nat)
  | _, 0 => none
  | i, m + 1 => match g i with
    | some l => some (i :: l)
    | none => frst g (i + 1) m
def tri (e : Nat → Nat → Bool) (n t : Nat) : Nat → Nat → Option (List Nat)
  | 0, c => if apt c t n > 0 then none else some []
  | k + 1, c => if apt c t n > k + 1 then none else frst (fun i => if e c i = true then tri e n t k (c ^^^ 2 ^ i) else none) 0 n
theorem frst_some {g : Nat → Option (List Nat)} : ∀ {m i : Nat} {l : List Nat}, frst g i m = some l → ∃ j l', i ≤ j ∧ j < i + m ∧ l = j :: l' ∧ g j = some l' ∧ ∀ k, i ≤ k → k < j → g k = none
  | 0, _, _, h => by cases h
  | m + 1, i, l, h => by
    unfold frst at h
    split at h
    · rename_i l' hl
      injection h with h
      exact ⟨i, l', Nat.le_refl _, by omega, h.symm, hl, fun k h1 h2 => by omega⟩
    · rename_i hno
      obtain ⟨j, l', h1, h2, h3, h4, h5⟩ := frst_some h
      refine ⟨j, l', by omega, by omega, h3, h4, fun k k1 k2 => ?_⟩
      rcases Nat.eq_or_lt_of_le k1 with rfl | k3
      · exact hno
      · exact h5 k k3 k2
theorem frst_none {g : Nat → Option (List Nat)} : ∀ {m i : Nat}, frst g i m = none → ∀ k, i ≤ k → k < i + m → g k = none
  | 0, _, _, k, h1, h2 => by omega
  | m + 1, i, h, k, h1, h2 => by
    unfold frst at h
    split at h
    · cases h
    · rename_i hno
      rcases Nat.eq_or_lt_of_le h1 with rfl | k3
      · exact hno
      · exact frst_none h k k3 (by omega)
theorem tri_none {e : Nat → Nat → Bool} {n t : Nat} : ∀ {k c : Nat}, tri e n t k c = none → ∀ l, pok e n c l → pend c l = t → l.length ≠ k
  | 0, c, h, l, h1, h2, h3 => by
    match l, h3 with
    | [], _ =>
      have h2 : c = t := h2
      subst h2
      unfold tri at h
      rw [apt_self, if_neg (by decide)] at h
      cases h
  | k + 1, c, h, l, h1, h2, h3 => by
    match l, h3 with
    | i :: l, h3 =>
      have hap := apt_path h1
      rw [h2] at hap
      unfold tri at h
      rw [if_neg (by omega)] at h
      have h4 := frst_none h i (Nat.zero_le _) (by have := h1.1; omega)
      rw [if_pos h1.2.1] at h4
      exact tri_none h4 l h1.2.2 h2 (by simpa using h3)
theorem tri_some {e : Nat → Nat → Bool} {n t : Nat} (hn : n ≤ 8) (ht : t < 2 ^ n) : ∀ {k c : Nat} {l : List Nat}, c < 2 ^ n → tri e n t k c = some l → l.length = k ∧ pok e n c l ∧ pend c l = t ∧ ∀ l', pok e n c l' → pend c l' = t → l'.length = k → ∀ a, vl a l ≤ vl a l'
  | 0, c, l, hc, h => by
    unfold tri at h
    split at h
    · cases h
    · rename_i h0
      injection h with h
      subst h
      refine ⟨rfl, trivial, bits_eq hc ht (apt_zero (show apt c t n = 0 by omega)), fun l' _ _ hl a => ?_⟩
      match l', hl with
      | [], _ => exact Nat.le_refl _
  | k + 1, c, l, hc, h => by
    unfold tri at h
    split at h
    · cases h
    · obtain ⟨j, l2, _, j2, rfl, j4, j5⟩ := frst_some h
      have hjn : j < n := by omega
      by_cases he : e c j = true
      · rw [if_pos he] at j4
        obtain ⟨r1, r2, r3, r4⟩ := tri_some hn ht (xor_lt hc hjn) j4
        refine ⟨by simp [r1], ⟨hjn, he, r2⟩, r3, fun l' p1 p2 p3 a => ?_⟩
        match l', p3 with
        | i :: l3, p3 =>
          have p3 : l3.length = k := by simpa using p3
          rcases Nat.lt_trichotomy i j with c1 | c1 | c1
          · have h1 := j5 i (Nat.zero_le _) c1
            rw [if_pos p1.2.1] at h1
            exact absurd p3 (tri_none h1 l3 p1.2.2 p2)
          · subst c1
            exact r4 l3 p1.2.2 p2 p3 (8 * a + i)
          · exact Nat.le_of_lt (vl_lt (l := l2) (l' := l3) (by omega) (by omega) fun q hq => Nat.lt_of_lt_of_le (pok_dig (c := c) r2 q hq) hn)
      · rw [if_neg he] at j4
        cases j4
/-- the reference's Plan: the first length that has one -/
def plnR (e : Nat → Nat → Bool) (n t c : Nat) : Nat → Nat → Option (List Nat)
  | _, 0 => none
  | k, m + 1 => match tri e n t k c with
    | some l => some l
    | none => plnR e n t c (k + 1) m
theorem pln_some {e : Nat → Nat → Bool} {n t c : Nat} : ∀ {m k : Nat} {l : List Nat}, plnR e n t c k m = some l → ∃ j, k ≤ j ∧ j < k + m ∧ tri e n t j c = some l ∧ ∀ q, k ≤ q → q < j → tri e n t q c = none
  | 0, _, _, h => by cases h
  | m + 1, k, l, h => by
    unfold plnR at h
    split at h
    · rename_i l' hl
      injection h with h
      subst h
      exact ⟨k, Nat.le_refl _, by omega, hl, fun q h1 h2 => by omega⟩
    · rename_i hno
      obtain ⟨j, h1, h2, h3, h4⟩ := pln_some h
      refine ⟨j, by omega, by omega, h3, fun q q1 q2 => ?_⟩
      rcases Nat.eq_or_lt_of_le q1 with rfl | q3
      · exact hno
      · exact h4 q q3 q2
theorem pln_none {e : Nat → Nat → Bool} {n t c : Nat} : ∀ {m k : Nat}, plnR e n t c k m = none → ∀ q, k ≤ q → q < k + m → tri e n t q c = none
  | 0, _, _, q, h1, h2 => by omega
  | m + 1, k, h, q, h1, h2 => by
    unfold plnR at h
    split at h
    · cases h
    · rename_i hno
      rcases Nat.eq_or_lt_of_le h1 with rfl | q3
      · exact hno
      · exact pln_none h q q3 (by omega)
/-- the search finds what the reference finds -/
theorem Wkd.same {e : Nat → Nat → Bool} {n c0 t : Nat} {by_ : Nat → Int} {Pl : Nat → List Nat} (hn : n ≤ 3) (hc0 : c0 < 2 ^ n) (ht : t < 2 ^ n) (W : Wkd e n c0 by_ Pl) : (by_ t = -2 → plnR e n t c0 0 8 = none) ∧ (by_ t ≠ -2 → plnR e n t c0 0 8 = some (Pl t)) := by
  have h8 : 2 ^ n ≤ 8 := Nat.pow_le_pow_right (n := 2) (by decide) hn
  constructor
  · intro h
    cases hp : plnR e n t c0 0 8 with
    | none => rfl
    | some l =>
      obtain ⟨j, _, _, h3, _⟩ := pln_some hp
      obtain ⟨_, r2, r3, _⟩ := tri_some (by omega) ht hc0 h3
      have := (W.best l r2).1
      rw [r3] at this
      exact absurd h this
  · intro h
    obtain ⟨p1, p2⟩ := W.path hc0 _ t rfl ht h
    have hlen := W.len t ht h
    have hd : ∀ i, i ∈ Pl t → i < 8 := fun i hi => by have := pok_dig (c := c0) p1 i hi; omega
    cases hp : plnR e n t c0 0 8 with
    | none =>
      have h1 := pln_none hp (Pl t).length (Nat.zero_le _) (by omega)
      exact absurd rfl (tri_none h1 _ p1 p2)
    | some l =>
      obtain ⟨j, _, _, h3, h4⟩ := pln_some hp
      obtain ⟨r1, r2, r3, r4⟩ := tri_some (by omega) ht hc0 h3
      have hd2 : ∀ i, i ∈ l → i < 8 := fun i hi => by have := pok_dig (c := c0) r2 i hi; omega
      have hb := (W.best l r2).2
      rw [r3] at hb
      have hl := vl_len hd hd2 hb
      have hl2 : (Pl t).length = j := by
        rcases Nat.lt_or_ge (Pl t).length j with h5 | h5
        · exact absurd rfl (tri_none (h4 _ (Nat.zero_le _) h5) _ p1 p2)
        · omega
      have h6 := r4 (Pl t) p1 p2 hl2 1
      rw [vl_eq hd2 hd (by omega)]
end Go.Proofs.Ytemfikdogdadnaa
