/-
  ReserveBest: what Best finds is the least of all lists; Best's result in one form; the example.
-/
import Derived.Test.YtdakikgebfphmaaRbW
import Derived.Test.YtdakikgebfphmaaLst
namespace Go.Proofs.Ytdakikgebfphmaa
open Go.RowKit

/-- the least number of the permitted ones -/
def rmF (ok : Nat → Bool) (c : Nat → Int) : Nat → Int × Bool
  | 0 => (0, false)
  | i + 1 => if ok i = true ∧ ((rmF ok c i).2 = false ∨ c i < (rmF ok c i).1) then (c i, true) else rmF ok c i
theorem rmF_spec {ok : Nat → Bool} {c : Nat → Int} : ∀ N, ((rmF ok c N).2 = true ↔ ∃ i, i < N ∧ ok i = true) ∧ ((rmF ok c N).2 = true → (∃ i, i < N ∧ ok i = true ∧ (rmF ok c N).1 = c i) ∧ ∀ i, i < N → ok i = true → (rmF ok c N).1 ≤ c i)
  | 0 => ⟨⟨fun h => (by cases h), fun ⟨i, h, _⟩ => absurd h (Nat.not_lt_zero _)⟩, fun h => by cases h⟩
  | N + 1 => by
    obtain ⟨h1, h2⟩ := rmF_spec (ok := ok) (c := c) N
    simp only [rmF]
    by_cases hc : ok N = true ∧ ((rmF ok c N).2 = false ∨ c N < (rmF ok c N).1)
    · rw [if_pos hc]
      refine ⟨⟨fun _ => ⟨N, by omega, hc.1⟩, fun _ => rfl⟩, fun _ => ⟨⟨N, by omega, hc.1, rfl⟩, fun i hi ho => ?_⟩⟩
      rcases Nat.lt_succ_iff_lt_or_eq.1 hi with hlt | rfl
      · have h3 := h1.2 ⟨i, hlt, ho⟩
        have h4 := (h2 h3).2 i hlt ho
        rcases hc.2 with h5 | h5
        · rw [h5] at h3; cases h3
        · exact Int.le_of_lt (Int.lt_of_lt_of_le h5 h4)
      · exact Int.le_refl _
    · rw [if_neg hc]
      refine ⟨⟨fun h => ?_, fun ⟨i, hi, ho⟩ => ?_⟩, fun h => ?_⟩
      · obtain ⟨i, hi, ho⟩ := h1.1 h
        exact ⟨i, by omega, ho⟩
      · rcases Nat.lt_succ_iff_lt_or_eq.1 hi with hlt | rfl
        · exact h1.2 ⟨i, hlt, ho⟩
        · cases h9 : (rmF ok c i).2 with
          | true => rfl
          | false => exact absurd ⟨ho, .inl h9⟩ hc
      · obtain ⟨⟨i, hi, ho, e⟩, h3⟩ := h2 h
        refine ⟨⟨i, by omega, ho, e⟩, fun j hj hoj => ?_⟩
        rcases Nat.lt_succ_iff_lt_or_eq.1 hj with hlt | rfl
        · exact h3 j hlt hoj
        · by_cases h4 : c j < (rmF ok c j).1
          · exact absurd ⟨hoj, .inr h4⟩ hc
          · omega
theorem rl_at {A : List (List Int)} {l : List Int} (h : l ∈ A) : ∃ i, i < A.length ∧ A.getD i [] = l := by
  obtain ⟨i, hi, e⟩ := List.getElem_of_mem h
  exact ⟨i, hi, by rw [List.getD_eq_getElem?_getD, List.getElem?_eq_getElem hi]; exact e⟩
theorem rl_of {A : List (List Int)} {i : Nat} (h : i < A.length) : A.getD i [] ∈ A := by
  rw [List.getD_eq_getElem?_getD, List.getElem?_eq_getElem h]
  exact List.getElem_mem h
theorem rCell_at : ∀ (l : List Int) (k : Nat), k < l.length → lCell l k 0 = iL (lF' l k)
  | [], k, h => absurd h (Nat.not_lt_zero _)
  | v :: l, 0, _ => rfl
  | v :: l, k + 1, h => rCell_at l k (by simpa using h)
/-- a row of numbers as a list -/
def toR (y : Nat → Int) (n : Nat) : List Int := (List.range n).map y
theorem toR_len (y : Nat → Int) (n : Nat) : (toR y n).length = n := by simp [toR]
theorem toR_at (y : Nat → Int) {n k : Nat} (hk : k < n) : lF' (toR y n) k = y k := by
  unfold lF' toR
  rw [List.getD_eq_getElem?_getD, List.getElem?_eq_getElem (by simp; exact hk)]
  simp
/-- the cost of unit k; of row i of the lists, and whether it holds enough -/
def rkC (m : Nat → Nat) (p q : Nat → Nat → Int) (x : Nat → Int) (k : Nat) : Int := S (ct (p k) (q k) (x k)) (m k)
def rlC (m : Nat → Nat) (p q : Nat → Nat → Int) (n : Nat) (A : List (List Int)) (i : Nat) : Int := S (rkC m p q (lF' (A.getD i []))) n
def rlO (m : Nat → Nat) (p : Nat → Nat → Int) (g : Nat → Int) (nd : Int) (n : Nat) (A : List (List Int)) (i : Nat) : Bool := decide (S (hK m p g (lF' (A.getD i []))) n ≥ nd)
section
variable {n : Nat} {s : Nat → ByteArray} {m : Nat → Nat} {p q : Nat → Nat → Int} {g : Nat → Int} {T nd : Int}
theorem hK_late {x : Nat → Int} (h0 : unE n s m p q g = 0) (hx : ∀ k, k < n → 0 ≤ x k ∧ x k ≤ S (p k) (m k)) : S (hK m p g x) n = S (hK m p g z0) n - S (fun k => x k - min (x k) (rE m p g k)) n := by
  obtain ⟨_, hall⟩ := unE_zero h0
  rw [← S_sub2]
  refine S_congr fun k hk => ?_
  have := hall k hk
  have := hx k hk
  unfold hK rE z0
  omega
theorem late_nn {x : Nat → Int} (n : Nat) : 0 ≤ S (fun k => x k - min (x k) (rE m p g k)) n := by
  have := S_mono (p := fun k => x k - min (x k) (rE m p g k)) (i := 0) (j := n) (fun k _ => by (try dsimp only); omega) (Nat.zero_le _)
  exact this
/-- no list is permitted when Best finds none -/
theorem rm_none (h0 : unE n s m p q g = 0) (hT : 0 ≤ T ∧ T ≤ 1000000) (h8 : ∀ k, k < n → S (p k) (m k) ≤ 8) (hn3 : n ≤ 3)
    (hE : S (hK m p g z0) n - nd < 0 ∨ 0 ≤ S (hK m p g z0) n - nd ∧ ∃ π, Sorted (uK m p q (rE m p g) n) π (oN (rM m p (rE m p g)) n) ∧ rbD m p (rE m p g) n π T (S (hK m p g z0) n - nd) (oN (rM m p (rE m p g)) n) > 0) :
    (rmF (rlO m p g nd n (LS (fun k => S (p k) (m k)) n (min T 1000))) (rlC m p q n (LS (fun k => S (p k) (m k)) n (min T 1000))) (LS (fun k => S (p k) (m k)) n (min T 1000)).length).2 = false := by
  cases h9 : (rmF (rlO m p g nd n (LS (fun k => S (p k) (m k)) n (min T 1000))) (rlC m p q n (LS (fun k => S (p k) (m k)) n (min T 1000))) (LS (fun k => S (p k) (m k)) n (min T 1000)).length).2 with
  | false => rfl
  | true =>
    exfalso
    obtain ⟨i, hi, ho⟩ := (rmF_spec _).1.1 h9
    obtain ⟨g1, g2, g3⟩ := LS_mem.1 (rl_of hi)
    have ho : S (hK m p g (lF' ((LS (fun k => S (p k) (m k)) n (min T 1000)).getD i []))) n ≥ nd := of_decide_eq_true ho
    generalize lF' ((LS (fun k => S (p k) (m k)) n (min T 1000)).getD i []) = y at *
    have a4 : S y n ≤ 24 := by
      have := S_le (p := y) (a := 0) (b := 8) (k := n) fun k hk => ⟨(g3 k hk).1, Int.le_trans (g3 k hk).2 (h8 k hk)⟩
      omega
    rw [hK_late h0 g3] at ho
    have hln := late_nn (m := m) (p := p) (g := g) (x := y) n
    rcases hE with hE | ⟨hL, π, hq, hd⟩
    · omega
    · have := (rb_opt (rb_ok h0) hq.wk hT.1 hL g3 (by omega) (by omega)).1
      omega
/-- what Best finds is the least one of all lists -/
theorem rm_some (h0 : unE n s m p q g = 0) (hT : 0 ≤ T ∧ T ≤ 1000000) (h8 : ∀ k, k < n → S (p k) (m k) ≤ 8) (hn3 : n ≤ 3) (hL : 0 ≤ S (hK m p g z0) n - nd) {π : Nat → Nat}
    (hq : Sorted (uK m p q (rE m p g) n) π (oN (rM m p (rE m p g)) n)) (hd : rbD m p (rE m p g) n π T (S (hK m p g z0) n - nd) (oN (rM m p (rE m p g)) n) = 0)
    {y : Nat → Int} (hy : y = fun k => rbX m p (rE m p g) n π T (S (hK m p g z0) n - nd) k (oN (rM m p (rE m p g)) n)) :
    (rmF (rlO m p g nd n (LS (fun k => S (p k) (m k)) n (min T 1000))) (rlC m p q n (LS (fun k => S (p k) (m k)) n (min T 1000))) (LS (fun k => S (p k) (m k)) n (min T 1000)).length) = (S (rkC m p q y) n, true) ∧
    (∀ k, k < n → 0 ≤ y k ∧ y k ≤ S (p k) (m k)) ∧ S y n = T ∧ S (hK m p g y) n ≥ nd ∧ rbC m p q (rE m p g) n π T (S (hK m p g z0) n - nd) (oN (rM m p (rE m p g)) n) = S (rkC m p q y) n := by
  obtain ⟨f1, f2, f3, f4⟩ := rb_found (rb_ok h0) hq.wk hT.1 hL
  have f4 := f4 hd
  rw [hd] at f2
  have hyb : ∀ k, k < n → 0 ≤ y k ∧ y k ≤ S (p k) (m k) := fun k hk => by rw [hy]; exact f1 k hk
  have hys : S y n = T := by rw [hy, f2]; omega
  have hyl : S (fun k => y k - min (y k) (rE m p g k)) n ≤ S (hK m p g z0) n - nd := by rw [hy]; exact f3
  have hyc : S (rkC m p q y) n = rbC m p q (rE m p g) n π T (S (hK m p g z0) n - nd) (oN (rM m p (rE m p g)) n) := by rw [hy]; exact f4
  have hyh : S (hK m p g y) n ≥ nd := by rw [hK_late h0 hyb]; omega
  have hT24 : T ≤ 24 := by
    have := S_le (p := y) (a := 0) (b := 8) (k := n) fun k hk => ⟨(hyb k hk).1, Int.le_trans (hyb k hk).2 (h8 k hk)⟩
    omega
  have hopt : ∀ z : Nat → Int, (∀ k, k < n → 0 ≤ z k ∧ z k ≤ S (p k) (m k)) → S z n = T → S (hK m p g z) n ≥ nd → S (rkC m p q y) n ≤ S (rkC m p q z) n := fun z hz hs hh => by
    rw [hyc]
    rw [hK_late h0 hz] at hh
    exact (rb_opt (rb_ok h0) hq.wk hT.1 hL hz hs (by omega)).2
  have hmin : min T 1000 = T := by omega
  rw [hmin]
  generalize hA : LS (fun k => S (p k) (m k)) n T = A
  have hmem : toR y n ∈ A := by
    rw [← hA, LS_mem]
    refine ⟨toR_len y n, ?_, fun k hk => ?_⟩
    · rw [S_congr (g := y) fun k hk => toR_at y hk]
      exact hys
    · rw [toR_at y hk]
      exact hyb k hk
  obtain ⟨i, hi, hie⟩ := rl_at hmem
  have hoi : rlO m p g nd n A i = true := by
    unfold rlO
    rw [hie]
    refine decide_eq_true ?_
    rw [S_congr (g := hK m p g y) fun k hk => by unfold hK; rw [toR_at y hk]]
    exact hyh
  have hci : rlC m p q n A i = S (rkC m p q y) n := by
    unfold rlC
    rw [hie]
    exact S_congr fun k hk => by unfold rkC; rw [toR_at y hk]
  obtain ⟨m1, m2⟩ := rmF_spec (ok := rlO m p g nd n A) (c := rlC m p q n A) A.length
  have m3 := m1.2 ⟨i, hi, hoi⟩
  obtain ⟨⟨j, hj, hoj, ej⟩, m4⟩ := m2 m3
  have m5 := m4 i hi hoi
  have hcj : S (rkC m p q y) n ≤ rlC m p q n A j := by
    have g1 := rl_of hj
    rw [← hA] at g1
    obtain ⟨_, g2, g3⟩ := LS_mem.1 g1
    rw [hA] at g2 g3
    exact hopt _ g3 g2 (of_decide_eq_true hoj)
  refine ⟨Prod.ext ?_ m3, hyb, hys, hyh, hyc.symm⟩
  show (rmF (rlO m p g nd n A) (rlC m p q n A) A.length).1 = _
  omega
end
theorem rTup {bs' bs : List AV} (h : Le bs' bs) : Le1 (.tup bs') (.tup bs) := fun σ I w v hd => by
  simp only [Den] at hd ⊢
  obtain ⟨us, e, h1⟩ := hd
  exact ⟨us, e, h _ _ _ _ h1⟩
/-- Best's result in one form -/
def rbG' (n : Nat) (s : Nat → ByteArray) (m : Nat → Nat) (p q : Nat → Nat → Int) (g : Nat → Int) (T nd : Int) (obs : List OB) (v : AV) : Prop :=
  obs = [] ∧ ∃ E K y c, v = .tup [.c (.sl 1 K (c1 y)), intV c, intV E] ∧ ((E = rbE n s m p q g T nd ∧ E ≠ 0 ∧ K = 0 ∧ c = 0) ∨
    (rbE n s m p q g T nd = 0 ∧ ∃ π, Sorted (uK m p q (rE m p g) n) π (oN (rM m p (rE m p g)) n) ∧
      ((rbD m p (rE m p g) n π T (S (hK m p g z0) n - nd) (oN (rM m p (rE m p g)) n) > 0 ∧ E = 8 ∧ K = 0 ∧ c = 0) ∨
       (rbD m p (rE m p g) n π T (S (hK m p g z0) n - nd) (oN (rM m p (rE m p g)) n) = 0 ∧ E = 0 ∧ K = n ∧ (y = fun k => rbX m p (rE m p g) n π T (S (hK m p g z0) n - nd) k (oN (rM m p (rE m p g)) n)) ∧ c = rbC m p q (rE m p g) n π T (S (hK m p g z0) n - nd) (oN (rM m p (rE m p g)) n)))))
theorem rbBestR (n : Nat) (s : Nat → ByteArray) (m : Nat → Nat) (p q : Nat → Nat → Int) (g : Nat → Int) (T nd : Int) (hB : n * 40 ≤ 140737488355328) (hk : ∀ k, k < n → (s k).size ≤ maxLen ∧ m k ≤ maxLen) : Fn Try.prog 56 [.c (.sl 3 n (cRu s m p q g)), intV T, intV nd] (rbG' n s m p q g T nd) :=
  (rbBest n s m p q g T nd hB hk).res fun obs r ⟨h1, h2⟩ => by
    rcases h2 with ⟨h2, rfl⟩ | ⟨h2, π, hq, ⟨h3, rfl⟩ | ⟨h3, rfl⟩⟩
    · exact ⟨_, ⟨h1, rbE n s m p q g T nd, 0, fun _ => 0, 0, rfl, .inl ⟨rfl, h2, rfl, rfl⟩⟩, rTup (Le.cons lsNil (Le.cons (Le1.refl _) (Le.cons (Le1.refl _) Le.nil)))⟩
    · exact ⟨_, ⟨h1, 8, 0, fun _ => 0, 0, rfl, .inr ⟨h2, π, hq, .inl ⟨h3, rfl, rfl, rfl⟩⟩⟩, rTup (Le.cons lsNil (Le.cons (Le1.refl _) (Le.cons (Le1.refl _) Le.nil)))⟩
    · refine ⟨_, ⟨h1, 0, n, _, _, rfl, .inr ⟨h2, π, hq, .inr ⟨?_, rfl, rfl, rfl, rfl⟩⟩⟩, Le1.refl _⟩
      have := gd_nn T (S (hK m p g z0) n - nd) (fun b => uS m p (rE m p g) n (π b)) (fun b => uF m p (rE m p g) n (π b)) (oN (rM m p (rE m p g)) n)
      unfold rbD at h3 ⊢
      omega
theorem rbE_zero {n : Nat} {s : Nat → ByteArray} {m : Nat → Nat} {p q : Nat → Nat → Int} {g : Nat → Int} {T nd : Int} (h : rbE n s m p q g T nd = 0) : unE n s m p q g = 0 ∧ (0 ≤ T ∧ T ≤ 1000000) ∧ 0 ≤ nd ∧ nd ≤ 1000000 ∧ 0 ≤ S (hK m p g z0) n - nd := by
  unfold rbE at h
  split at h
  · rename_i h1; exact absurd h h1
  · rename_i h1
    split at h
    · cases h
    · rename_i h2
      split at h
      · cases h
      · rename_i h3
        simp only [badN, BL] at h2
        exact ⟨by simpa using h1, by omega, by omega, by omega, by omega⟩
/-- the example: 8 of two units of 10, at 5 and at 8, with a reserve of 12 -/
def reS : Nat → ByteArray := fun k => if k = 0 then ⟨#[65]⟩ else ⟨#[66]⟩
def reM : Nat → Nat := fun _ => 1
def reP : Nat → Nat → Int := fun _ _ => 10
def reQ : Nat → Nat → Int := fun k _ => if k = 0 then 5 else 8
def reG : Nat → Int := fun _ => 10
theorem re_un : unE 2 reS reM reP reQ reG = 0 := by decide +kernel
theorem re_E : rbE 2 reS reM reP reQ reG 8 12 = 0 := by decide +kernel
theorem re_c (Y : Nat → Int) : S (fun k => S (ct (reP k) (reQ k) (Y k)) (reM k)) 2 = min (max (Y 0 - 0) 0) 10 * 5 + min (max (Y 1 - 0) 0) 10 * 8 := by
  show 0 + (0 + min (max (Y 0 - 0) 0) 10 * 5) + (0 + min (max (Y 1 - 0) 0) 10 * 8) = _
  omega
theorem re_cost {π : Nat → Nat} (hq : Sorted (uK reM reP reQ (rE reM reP reG) 2) π (oN (rM reM reP (rE reM reP reG)) 2)) :
    rbD reM reP (rE reM reP reG) 2 π 8 (S (hK reM reP reG z0) 2 - 12) (oN (rM reM reP (rE reM reP reG)) 2) = 0 ∧ rbC reM reP reQ (rE reM reP reG) 2 π 8 (S (hK reM reP reG z0) 2 - 12) (oN (rM reM reP (rE reM reP reG)) 2) = 40 := by
  have hL : (0 : Int) ≤ S (hK reM reP reG z0) 2 - 12 := by decide
  obtain ⟨o1, o2⟩ := rb_opt (rb_ok re_un) hq.wk (T := 8) (by decide) hL (x := fun k => if k = 0 then 8 else 0) (by decide) (by decide) (by decide)
  obtain ⟨f1, f2, f3, f4⟩ := rb_found (rb_ok re_un) hq.wk (T := 8) (by decide) hL
  have f4 := f4 o1
  rw [o1] at f2
  refine ⟨o1, Int.le_antisymm (Int.le_trans o2 (by decide)) ?_⟩
  rw [← f4]
  have g0 := f1 0 (by decide)
  have g1 := f1 1 (by decide)
  have e1 := re_c fun k => rbX reM reP (rE reM reP reG) 2 π 8 (S (hK reM reP reG z0) 2 - 12) k (oN (rM reM reP (rE reM reP reG)) 2)
  rw [e1]
  have e2 : S (fun k => rbX reM reP (rE reM reP reG) 2 π 8 (S (hK reM reP reG z0) 2 - 12) k (oN (rM reM reP (rE reM reP reG)) 2)) 2 = 0 + rbX reM reP (rE reM reP reG) 2 π 8 (S (hK reM reP reG z0) 2 - 12) 0 (oN (rM reM reP (rE reM reP reG)) 2) + rbX reM reP (rE reM reP reG) 2 π 8 (S (hK reM reP reG z0) 2 - 12) 1 (oN (rM reM reP (rE reM reP reG)) 2) := rfl
  have s0 : S (reP 0) (reM 0) = 10 := rfl
  have s1 : S (reP 1) (reM 1) = 10 := rfl
  rw [s0] at g0
  rw [s1] at g1
  omega
end Go.Proofs.Ytdakikgebfphmaa
