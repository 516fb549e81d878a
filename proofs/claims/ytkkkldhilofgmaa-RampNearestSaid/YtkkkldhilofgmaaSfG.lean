/-
  slices.Grow of nothing: an own row of no element with room.
-/
import Derived.Test.YtkkkldhilofgmaaSfLGrw
import Derived.Test.YtkkkldhilofgmaaPur
namespace Go.Proofs.Ytkkkldhilofgmaa
open Go.RowKit

theorem grow0 (n : Nat) (hn : n ≤ 1000) : Fn Try.prog 102 [.c (.v (.slice none 0 0)), intV n] (fun obs r => obs = [.row 47 2 0 true fun _ _ => .v undef] ∧ r = .own 0) := by
  refine ⟨⟨_, Try.func102, by decide, rfl⟩, fun w I vs hI hd => ?_⟩
  simp only [DenL, Den, intV, L.rd] at hd
  obtain ⟨u0, us, rfl, ⟨rfl, _⟩, u1, us', rfl, ⟨rfl, _⟩, rfl⟩ := hd
  rcases Nat.eq_zero_or_pos n with rfl | hp
  · have h := Any8.slices_Grow_room sfGrw none 0 0 0 w (Nat.le_refl _) (by decide) (by decide) (Nat.le_refl _)
    refine Calls.mono h ?_
    rintro e w' ⟨rfl, rfl⟩
    refine ⟨.slice none 0 0, ⟨1, fun _ => none, fun _ => .slice none 0 0⟩, I, _, .own 0, rfl, ⟨rfl, rfl⟩, Same.refl _, fun _ h => h, fun _ h => .inl h, ⟨rfl, hI, fun i o e => ?_, fun i o b _ _ h => (by cases h), fun i j oi oj b _ _ _ _ h => (by cases h)⟩, ?_⟩
    · match i, e with
      | 0, e =>
        injection e with e
        subst e
        exact ⟨.inl ⟨rfl, ⟨none, rfl⟩, rfl⟩, fun _ _ _ => rfl⟩
    · simp only [Den]
      exact ⟨Nat.zero_lt_one, trivial, rfl⟩
  · obtain ⟨d, i, g1, g2, g3, g4, g5, g6⟩ := (e47_ok).get
    have gs : i.size = 2 := g4
    have gb : i.bytes = 16 := g5
    have h := Any8.slices_Grow_grow sfGrw i (e47).zero g3 g6 (by rw [gs]; decide) none 0 0 n [] w (Nat.le_refl _) (by omega) (by rw [gb]; omega) (by omega) (by simp) (fun _ => rfl) (fun a h => (by cases h))
    refine Calls.mono h ?_
    rintro e w' ⟨rfl, rfl⟩
    have hge := grownCap_ge w (0 + n) 0 47
    have hle := grownCap_le_maxLen w (0 + n) 0 47 (by unfold maxLen; omega)
    change (_ : Nat) ≤ grownCap w (0 + n) 0 (sfGrw_ren.t 25) at hge
    change grownCap w (0 + n) 0 (sfGrw_ren.t 25) ≤ _ at hle
    generalize grownCap w (0 + n) 0 (sfGrw_ren.t 25) = cap at *
    refine ⟨_, ⟨1, fun _ => some w.heap.size, fun _ => .slice (some ⟨w.heap.size, 0, none⟩) 0 cap⟩, I, _, .own 0, rfl, ⟨rfl, rfl⟩, (Same.drew w).trans (Same.alloc _ _), fun _ h => h, fun _ h => .inl h, ⟨rfl, fun b hb => ?_, fun i o e => ?_, fun i o b _ _ h => ?_, fun i j oi oj b hi hj _ _ _ _ => ?_⟩, ?_⟩
    · have := hI b hb
      simp
      show b < w.heap.size + 1
      omega
    · match i, e with
      | 0, e =>
        injection e with e
        subst e
        refine ⟨.inr ⟨rfl, [], ⟨by simp, .inr ⟨w.heap.size, cap, _, rfl, Nat.zero_le _, heap_alloc_new w.drew _, Nat.zero_le _, hle, ?_, by simp⟩⟩, fun x hx => (List.not_mem_nil hx).elim, fun k hk => absurd hk (Nat.not_lt_zero _)⟩, fun _ _ _ => rfl⟩
        have hz : (e47).zero.cells.size = 2 := rfl
        simp [Builtin.zeroCells, hz]
        omega
    · injection h with h
      subst h
      exact ⟨Nat.le_refl _, fun hb => Nat.lt_irrefl _ (hI _ hb), by simp⟩
    · have h1 := (List.getElem?_eq_some_iff.1 hi).1
      have h2 := (List.getElem?_eq_some_iff.1 hj).1
      simp at h1 h2
      omega
    · simp only [Den]
      exact ⟨Nat.zero_lt_one, trivial, rfl⟩
end Go.Proofs.Ytkkkldhilofgmaa
