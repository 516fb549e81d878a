/-
  Alarms: by which alarms an alarm is explained; the plain law of the search.
-/
import Derived.Test.YtemfikdogdadnaaName4
namespace Go.Proofs.Ytemfikdogdadnaa
open Go.RowKit

theorem b_eq {a b : ByteArray} : (a.toList == b.toList) = true ↔ a = b := by
  rw [beq_iff_eq, ByteArray.toList_eq, ByteArray.toList_eq]
  constructor
  · intro h; exact ByteArray.ext (Array.toList_inj.1 h)
  · intro h; rw [h]
theorem b_ne {a b : ByteArray} : (a.toList == b.toList) = false ↔ ¬ a = b := by rw [← b_eq, Bool.not_eq_true]
/-- whether a name is among the first n -/
def hasB (p : Nat → ByteArray) (n : Nat) (x : ByteArray) : Bool := decide (fidx (sameN p x) n ≥ 0)
theorem has_iff {p : Nat → ByteArray} {n : Nat} {x : ByteArray} : hasB p n x = true ↔ ∃ j, j < n ∧ p j = x := by
  unfold hasB
  rw [decide_eq_true_eq]
  constructor
  · intro h
    refine Decidable.byContradiction fun hn => ?_
    rw [fidx_none (b := sameN p x) fun k hk => (b_ne.2 fun e => hn ⟨k, hk, e⟩ : sameN p x k = false)] at h
    exact absurd h (by decide)
  · rintro ⟨j, h1, h2⟩
    refine Decidable.byContradiction fun hn => ?_
    have := fidx_neg hn j h1
    rw [show sameN p x j = true from b_eq.2 h2] at this
    cases this
theorem has_congr {p q : Nat → ByteArray} {n : Nat} {x : ByteArray} (h : ∀ j, j < n → p j = q j) : hasB p n x = hasB q n x := by
  rw [Bool.eq_iff_iff, has_iff, has_iff]
  constructor
  · rintro ⟨j, h1, h2⟩; exact ⟨j, h1, (h j h1).symm.trans h2⟩
  · rintro ⟨j, h1, h2⟩; exact ⟨j, h1, (h j h1).trans h2⟩
/-- the causes -/
structure Css where
  m : Nat
  of : Nat → ByteArray
  by_ : Nat → ByteArray
/-- cause k leads from a to an active alarm -/
def edg (C : Css) (l : Nat → ByteArray) (n : Nat) (a : ByteArray) (k : Nat) : Prop := k < C.m ∧ C.of k = a ∧ hasB l n (C.by_ k) = true
def xpl (C : Css) (l : Nat → ByteArray) (n : Nat) : Nat → ByteArray → ByteArray → Prop
  | 0, a, b => a = b
  | d + 1, a, b => a = b ∨ ∃ k, edg C l n a k ∧ xpl C l n d (C.by_ k) b
/-- from a to b in at least one step, at most d -/
def pth (C : Css) (l : Nat → ByteArray) (n d : Nat) (a b : ByteArray) : Prop := ∃ k, edg C l n a k ∧ xpl C l n (d - 1) (C.by_ k) b
section
variable {C : Css} {l : Nat → ByteArray} {n : Nat}
theorem xpl_refl : ∀ (d : Nat) (a : ByteArray), xpl C l n d a a
  | 0, _ => rfl
  | _ + 1, _ => .inl rfl
theorem xpl_mono1 : ∀ {d : Nat} {a b : ByteArray}, xpl C l n d a b → xpl C l n (d + 1) a b
  | 0, _, _, h => .inl h
  | d + 1, _, _, h => by
    rcases h with h | ⟨k, h1, h2⟩
    · exact .inl h
    · exact .inr ⟨k, h1, xpl_mono1 h2⟩
theorem xpl_mono {d d' : Nat} {a b : ByteArray} (h : xpl C l n d a b) (hd : d ≤ d') : xpl C l n d' a b := by
  induction hd with
  | refl => exact h
  | step _ ih => exact xpl_mono1 ih
theorem xpl_snoc : ∀ {d : Nat} {a s : ByteArray} {k : Nat}, xpl C l n d a s → edg C l n s k → xpl C l n (d + 1) a (C.by_ k)
  | 0, a, s, k, h, he => by
    have h : a = s := h
    subst h
    exact .inr ⟨k, he, rfl⟩
  | d + 1, a, s, k, h, he => by
    rcases h with h | ⟨k', h1, h2⟩
    · subst h
      exact .inr ⟨k, he, xpl_refl _ _⟩
    · exact .inr ⟨k', h1, xpl_snoc h2 he⟩
theorem pth_mono {d d' : Nat} {a b : ByteArray} (h : pth C l n d a b) (hd : d ≤ d') : pth C l n d' a b := by
  obtain ⟨k, h1, h2⟩ := h
  exact ⟨k, h1, xpl_mono h2 (by omega)⟩
theorem pth_snoc {d : Nat} {a s : ByteArray} {k : Nat} (h : pth C l n (d + 1) a s) (he : edg C l n s k) : pth C l n (d + 2) a (C.by_ k) := by
  obtain ⟨k', h1, h2⟩ := h
  exact ⟨k', h1, xpl_snoc h2 he⟩
theorem pth_one {a : ByteArray} {k : Nat} (he : edg C l n a k) : pth C l n 1 a (C.by_ k) := ⟨k, he, rfl⟩
open Classical in
/-- how many of the first k are not yet found -/
noncomputable def frN (l : Nat → ByteArray) (out : List ByteArray) : Nat → Nat
  | 0 => 0
  | k + 1 => frN l out k + if l k ∈ out then 0 else 1
theorem frN_le (out : List ByteArray) : ∀ k, frN l out k ≤ k
  | 0 => Nat.le_refl _
  | k + 1 => by
    have := frN_le out k
    unfold frN
    split <;> omega
theorem frN_app_le (out : List ByteArray) (x : ByteArray) : ∀ k, frN l (out ++ [x]) k ≤ frN l out k
  | 0 => Nat.le_refl _
  | k + 1 => by
    have := frN_app_le out x k
    unfold frN
    by_cases h : l k ∈ out
    · rw [if_pos h, if_pos (List.mem_append_left _ h)]; omega
    · rw [if_neg h]
      split <;> omega
theorem frN_app {out : List ByteArray} {x : ByteArray} (hx : ¬ x ∈ out) : ∀ {k j : Nat}, j < k → l j = x → frN l (out ++ [x]) k + 1 ≤ frN l out k
  | 0, j, h, _ => absurd h (Nat.not_lt_zero j)
  | k + 1, j, h, e => by
    unfold frN
    rcases Nat.lt_succ_iff_lt_or_eq.1 h with h | h
    · have := frN_app hx h e
      by_cases h2 : l k ∈ out
      · rw [if_pos h2, if_pos (List.mem_append_left _ h2)]; omega
      · rw [if_neg h2]
        split <;> omega
    · subst h
      have := frN_app_le (l := l) out x j
      rw [e, if_neg hx, if_pos (List.mem_append_right _ (List.mem_singleton.2 rfl))]
      omega
/-- the search: found, still to do -/
structure Bfs (C : Css) (l : Nat → ByteArray) (n : Nat) (a : ByteArray) (out q : List ByteArray) : Prop where
  inl : ∀ x, x ∈ out → hasB l n x = true
  pth : ∀ (j : Nat) x, out[j]? = some x → pth C l n (j + 1) a x
  sub : ∀ x, x ∈ q → x = a ∨ x ∈ out
  cnt : out.length + frN l out n ≤ n
  clo : ∀ x, (x = a ∨ x ∈ out) → x ∈ q ∨ ∀ k, edg C l n x k → C.by_ k ∈ out
/-- within a round: s is looked at, its first k causes are done -/
structure Bfk (C : Css) (l : Nat → ByteArray) (n : Nat) (a s : ByteArray) (k : Nat) (out q : List ByteArray) : Prop where
  inl : ∀ x, x ∈ out → hasB l n x = true
  pth : ∀ (j : Nat) x, out[j]? = some x → pth C l n (j + 1) a x
  sub : ∀ x, x ∈ q → x = a ∨ x ∈ out
  cnt : out.length + frN l out n ≤ n
  isS : s = a ∨ s ∈ out
  don : ∀ k', k' < k → edg C l n s k' → C.by_ k' ∈ out
  clo : ∀ x, (x = a ∨ x ∈ out) → x ∈ q ∨ x = s ∨ ∀ k, edg C l n x k → C.by_ k ∈ out
theorem Bfs.start (a : ByteArray) : Bfs C l n a [] [a] := ⟨fun x h => (List.not_mem_nil h).elim, fun j x h => by simp at h, fun x h => .inl (List.mem_singleton.1 h), by have := frN_le (l := l) [] n; simpa using this, fun x h => by
  rcases h with h | h
  · exact .inl (List.mem_singleton.2 h)
  · exact (List.not_mem_nil h).elim⟩
theorem Bfs.pop {a s : ByteArray} {out q : List ByteArray} (h : Bfs C l n a out (s :: q)) : Bfk C l n a s 0 out q :=
  ⟨h.inl, h.pth, fun x hx => h.sub x (List.mem_cons_of_mem _ hx), h.cnt, h.sub s List.mem_cons_self, fun k hk => absurd hk (Nat.not_lt_zero k), fun x hx => by
    rcases h.clo x hx with h1 | h1
    · rcases List.mem_cons.1 h1 with h2 | h2
      · exact .inr (.inl h2)
      · exact .inl h2
    · exact .inr (.inr h1)⟩
theorem Bfk.done {a s : ByteArray} {out q : List ByteArray} (h : Bfk C l n a s C.m out q) : Bfs C l n a out q :=
  ⟨h.inl, h.pth, h.sub, h.cnt, fun x hx => by
    rcases h.clo x hx with h1 | h1 | h1
    · exact .inl h1
    · subst h1; exact .inr fun k hk => h.don k hk.1 hk
    · exact .inr h1⟩
theorem Bfk.skip {a s : ByteArray} {k : Nat} {out q : List ByteArray} (h : Bfk C l n a s k out q) (hk : edg C l n s k → C.by_ k ∈ out) : Bfk C l n a s (k + 1) out q :=
  ⟨h.inl, h.pth, h.sub, h.cnt, h.isS, fun k' hk' he => by
    rcases Nat.lt_succ_iff_lt_or_eq.1 hk' with h1 | rfl
    · exact h.don k' h1 he
    · exact hk he, h.clo⟩
theorem Bfk.add {a s : ByteArray} {k : Nat} {out q : List ByteArray} (h : Bfk C l n a s k out q) (he : edg C l n s k) (hn : ¬ C.by_ k ∈ out) : Bfk C l n a s (k + 1) (out ++ [C.by_ k]) (q ++ [C.by_ k]) := by
  obtain ⟨j, j1, j2⟩ := has_iff.1 he.2.2
  have hc := frN_app hn j1 j2
  refine ⟨fun x hx => ?_, fun i x hx => ?_, fun x hx => ?_, ?_, ?_, fun k' hk' he' => ?_, fun x hx => ?_⟩
  · rcases List.mem_append.1 hx with h1 | h1
    · exact h.inl x h1
    · rw [List.mem_singleton.1 h1]; exact he.2.2
  · rcases Nat.lt_or_ge i out.length with hi | hi
    · rw [List.getElem?_append_left hi] at hx
      exact h.pth i x hx
    · rw [List.getElem?_append_right hi] at hx
      have hi0 : i - out.length = 0 := by
        have := (List.getElem?_eq_some_iff.1 hx).1
        simp at this
        omega
      rw [hi0] at hx
      injection hx with hx
      subst hx
      have hi2 : i = out.length := by omega
      subst hi2
      rcases h.isS with rfl | hs
      · exact pth_mono (pth_one he) (by omega)
      · obtain ⟨i', hi', e⟩ := List.getElem_of_mem hs
        have h1 := h.pth i' s (by rw [List.getElem?_eq_getElem hi', e])
        exact pth_mono (pth_snoc h1 he) (by omega)
  · rcases List.mem_append.1 hx with h1 | h1
    · exact (h.sub x h1).imp id fun h2 => List.mem_append_left _ h2
    · exact .inr (List.mem_append_right _ h1)
  · have := h.cnt
    rw [List.length_append]
    show out.length + 1 + _ ≤ n
    omega
  · exact h.isS.imp id fun h2 => List.mem_append_left _ h2
  · rcases Nat.lt_succ_iff_lt_or_eq.1 hk' with h1 | rfl
    · exact List.mem_append_left _ (h.don k' h1 he')
    · exact List.mem_append_right _ (List.mem_singleton.2 rfl)
  · by_cases hx2 : x = a ∨ x ∈ out
    · rcases h.clo x hx2 with h1 | h1 | h1
      · exact .inl (List.mem_append_left _ h1)
      · exact .inr (.inl h1)
      · exact .inr (.inr fun k hk => List.mem_append_left _ (h1 k hk))
    · rcases hx with h1 | h1
      · exact absurd (.inl h1) hx2
      · rcases List.mem_append.1 h1 with h2 | h2
        · exact absurd (.inr h2) hx2
        · exact .inl (List.mem_append_right _ h2)
/-- what has been found at the end -/
theorem Bfs.fin {a : ByteArray} {out : List ByteArray} (h : Bfs C l n a out []) (b : ByteArray) : b ∈ out ↔ Go.Proofs.Ytemfikdogdadnaa.pth C l n n a b := by
  constructor
  · intro hb
    obtain ⟨j, hj, e⟩ := List.getElem_of_mem hb
    have h1 := h.pth j b (by rw [List.getElem?_eq_getElem hj, e])
    have := h.cnt
    exact pth_mono h1 (by omega)
  · rintro ⟨k, h1, h2⟩
    have hc : ∀ x, (x = a ∨ x ∈ out) → ∀ k, edg C l n x k → C.by_ k ∈ out := fun x hx => (h.clo x hx).elim (fun h => (List.not_mem_nil h).elim) id
    have key : ∀ (d : Nat) (x : ByteArray), x ∈ out → xpl C l n d x b → b ∈ out := by
      intro d
      induction d with
      | zero => intro x hx hp; have hp : x = b := hp; exact hp ▸ hx
      | succ d ih =>
        intro x hx hp
        rcases hp with rfl | ⟨k', e1, e2⟩
        · exact hx
        · exact ih _ (hc x (.inr hx) k' e1) e2
    exact key _ _ (hc a (.inl rfl) k h1) h2
end
end Go.Proofs.Ytemfikdogdadnaa
