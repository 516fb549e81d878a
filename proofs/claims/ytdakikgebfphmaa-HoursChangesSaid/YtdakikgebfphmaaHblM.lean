/-
  HoursChanges: the least of all lists is what Change finds.
-/
import Derived.Test.YtdakikgebfphmaaHblN
namespace Go.Proofs.Ytdakikgebfphmaa
open Go.RowKit

section
variable {n : Nat} {s : Nat → ByteArray} {m : Nat → Nat} {p q : Nat → Nat → Int} {x : Nat → Int} {T g : Int}
/-- the cost of row i of the lists, and whether it is permitted -/
def lsC (m : Nat → Nat) (p q : Nat → Nat → Int) (x : Nat → Int) (n : Nat) (A : List (List Int)) (i : Nat) : Int := S (wC m p q (lF' (A.getD i []))) n - S (wC m p q x) n
def lsO (x : Nat → Int) (g : Int) (n : Nat) (A : List (List Int)) (i : Nat) : Bool := cOk x (lF' (A.getD i [])) g n
theorem ls_at {A : List (List Int)} {l : List Int} (h : l ∈ A) : ∃ i, i < A.length ∧ A.getD i [] = l := by
  obtain ⟨i, hi, e⟩ := List.getElem_of_mem h
  exact ⟨i, hi, by rw [List.getD_eq_getElem?_getD, List.getElem?_eq_getElem hi]; exact e⟩
theorem ls_of {A : List (List Int)} {i : Nat} (h : i < A.length) : A.getD i [] ∈ A := by
  rw [List.getD_eq_getElem?_getD, List.getElem?_eq_getElem h]
  exact List.getElem_mem h
/-- a row of numbers as a list -/
def toL (y : Nat → Int) (n : Nat) : List Int := (List.range n).map y
theorem toL_len (y : Nat → Int) (n : Nat) : (toL y n).length = n := by simp [toL]
theorem toL_at (y : Nat → Int) {n k : Nat} (hk : k < n) : lF' (toL y n) k = y k := by
  unfold lF' toL
  rw [List.getD_eq_getElem?_getD, List.getElem?_eq_getElem (by simp; exact hk)]
  simp
/-- the limits of a change, and the rows that are permitted -/
theorem hl_iff {k : Nat} (hx : 0 ≤ x k) (hg : 0 ≤ g) {y : Int} : (0 ≤ y ∧ y ≤ S (p k) (m k)) ∧ (-g ≤ y - x k ∧ y - x k ≤ g) ↔ hLo x g k ≤ y ∧ y ≤ hHi m p x g k := by
  unfold hLo hHi
  omega
/-- no list is permitted when Change finds none -/
theorem hm_none (h : dxE n n s m p q x = 0) (hg : 0 ≤ g ∧ g ≤ 100000) (hT : 0 ≤ T ∧ T ≤ 1000000) (h8 : ∀ k, k < n → S (p k) (m k) ≤ 8) (hn3 : n ≤ 3) (hE : ¬(0 ≤ T - S (hLo x g) n ∧ T - S (hLo x g) n ≤ S (wR (hLo x g) (hHi m p x g)) n)) :
    (mnF (lsO x g n (LS ((fun k => S (p k) (m k))) n (min T 1000))) (lsC m p q x n (LS ((fun k => S (p k) (m k))) n (min T 1000))) (LS ((fun k => S (p k) (m k))) n (min T 1000)).length).2 = false := by
  cases h9 : (mnF (lsO x g n (LS ((fun k => S (p k) (m k))) n (min T 1000))) (lsC m p q x n (LS ((fun k => S (p k) (m k))) n (min T 1000))) (LS ((fun k => S (p k) (m k))) n (min T 1000)).length).2 with
  | false => rfl
  | true =>
    exfalso
    obtain ⟨i, hi, ho⟩ := (mnF_spec _).1.1 h9
    obtain ⟨g1, g2, g3⟩ := LS_mem.1 (ls_of hi)
    obtain ⟨hw, _, _, hx⟩ := hWin h hg.1
    have g4 := cOk_iff.1 ho
    have g5 : ∀ k, k < n → hLo x g k ≤ lF' ((LS ((fun k => S (p k) (m k))) n (min T 1000)).getD i []) k ∧ lF' ((LS ((fun k => S (p k) (m k))) n (min T 1000)).getD i []) k ≤ hHi m p x g k := fun k hk => (hl_iff (hx k hk).1 hg.1).1 ⟨g3 k hk, g4 k hk⟩
    generalize lF' ((LS ((fun k => S (p k) (m k))) n (min T 1000)).getD i []) = y at *
    have a1 := S_leS fun k hk => (g5 k hk).1
    have a2 := S_leS fun k hk => (g5 k hk).2
    have a3 : S (hHi m p x g) n = S (hLo x g) n + S (wR (hLo x g) (hHi m p x g)) n := by
      rw [← S_plus2]
      exact S_congr fun k _ => by unfold wR; omega
    have a4 : S y n ≤ 24 := by
      have := S_le (p := y) (a := 0) (b := 8) (k := n) fun k hk => ⟨(g3 k hk).1, Int.le_trans (g3 k hk).2 (h8 k hk)⟩
      omega
    omega
/-- what Change finds is the least one of all lists -/
theorem hm_some (h : dxE n n s m p q x = 0) (hg : 0 ≤ g ∧ g ≤ 100000) (h8 : ∀ k, k < n → S (p k) (m k) ≤ 8) (hn3 : n ≤ 3) (hE : 0 ≤ T - S (hLo x g) n ∧ T - S (hLo x g) n ≤ S (wR (hLo x g) (hHi m p x g)) n) {π : Nat → Nat}
    (hq : Sorted (bSz (wM m p (hLo x g) (hHi m p x g)) (wQ m p q (hLo x g)) n) π (oN (wM m p (hLo x g) (hHi m p x g)) n)) {y : Nat → Int} (hy : y = fun k => hLo x g k + wX m p (hLo x g) (hHi m p x g) n π (T - S (hLo x g) n) k) :
    (mnF (lsO x g n (LS (fun k => S (p k) (m k)) n (min T 1000))) (lsC m p q x n (LS (fun k => S (p k) (m k)) n (min T 1000))) (LS (fun k => S (p k) (m k)) n (min T 1000)).length) = (S (wC m p q y) n - S (wC m p q x) n, true) ∧
    (∀ k, k < n → (0 ≤ y k ∧ y k ≤ S (p k) (m k)) ∧ (-g ≤ y k - x k ∧ y k - x k ≤ g)) ∧ S y n = T := by
  obtain ⟨hw, _, _, hx⟩ := hWin h hg.1
  obtain ⟨hXs, hXb⟩ := hw.xb hq hE.1 hE.2
  have hyk : ∀ k, y k = hLo x g k + wX m p (hLo x g) (hHi m p x g) n π (T - S (hLo x g) n) k := fun k => by rw [hy]
  have hyb : ∀ k, k < n → (0 ≤ y k ∧ y k ≤ S (p k) (m k)) ∧ (-g ≤ y k - x k ∧ y k - x k ≤ g) := fun k hk => (hl_iff (hx k hk).1 hg.1).2 (by
    have := hXb k hk
    unfold wR at this
    rw [hyk]
    omega)
  have hys : S y n = T := by
    rw [hy, S_plus2]
    have : S (fun k => wX m p (hLo x g) (hHi m p x g) n π (T - S (hLo x g) n) k) n = T - S (hLo x g) n := hXs
    rw [this]
    show S (hLo x g) n + _ = T
    omega
  have hT24 : T ≤ 24 := by
    have := S_le (p := y) (a := 0) (b := 8) (k := n) fun k hk => ⟨(hyb k hk).1.1, Int.le_trans (hyb k hk).1.2 (h8 k hk)⟩
    omega
  have hopt : ∀ z : Nat → Int, (∀ k, k < n → (0 ≤ z k ∧ z k ≤ S (p k) (m k)) ∧ (-g ≤ z k - x k ∧ z k - x k ≤ g)) → S z n = T → S (wC m p q y) n ≤ S (wC m p q z) n := fun z hz hs => by
    rw [hy]
    exact hw.opt hq hE.1 hE.2 (fun k hk => (hl_iff (hx k hk).1 hg.1).1 (hz k hk)) (by omega)
  have hmin : min T 1000 = T := by omega
  rw [hmin]
  generalize hA : LS (fun k => S (p k) (m k)) n T = A
  have hmem : toL y n ∈ A := by
    rw [← hA, LS_mem]
    refine ⟨toL_len y n, ?_, fun k hk => ?_⟩
    · rw [S_congr (g := y) fun k hk => toL_at y hk]
      exact hys
    · rw [toL_at y hk]
      exact (hyb k hk).1
  obtain ⟨i, hi, hie⟩ := ls_at hmem
  have hoi : lsO x g n A i = true := by
    unfold lsO
    rw [hie, cOk_iff]
    intro k hk
    rw [toL_at y hk]
    exact (hyb k hk).2
  have hci : lsC m p q x n A i = S (wC m p q y) n - S (wC m p q x) n := by
    unfold lsC
    rw [hie, S_congr (f := wC m p q (lF' (toL y n))) (g := wC m p q y) fun k hk => by unfold wC; rw [toL_at y hk]]
  obtain ⟨m1, m2⟩ := mnF_spec (ok := lsO x g n A) (c := lsC m p q x n A) A.length
  have m3 := m1.2 ⟨i, hi, hoi⟩
  obtain ⟨⟨j, hj, hoj, ej⟩, m4⟩ := m2 m3
  have m5 := m4 i hi hoi
  have hcj : S (wC m p q y) n - S (wC m p q x) n ≤ lsC m p q x n A j := by
    have g1 := ls_of hj
    rw [← hA] at g1
    obtain ⟨_, g2, g3⟩ := LS_mem.1 g1
    rw [hA] at g2 g3
    have g4 := cOk_iff.1 hoj
    have := hopt _ (fun k hk => ⟨g3 k hk, g4 k hk⟩) g2
    unfold lsC
    omega
  refine ⟨?_, hyb, hys⟩
  refine Prod.ext ?_ m3
  show (mnF (lsO x g n A) (lsC m p q x n A) A.length).1 = _
  omega
end
end Go.Proofs.Ytdakikgebfphmaa
