/-
  Offers: sums, costs, prices, and the references' forms of these.
-/
import Derived.Test.YtkkkldhilofgmaaOff
namespace Go.Proofs.Ytkkkldhilofgmaa
open Go.RowKit

def sO (P : ByteArray → Nat → (Nat → Int) → (Nat → Int) → Prop) (g : ByteArray → Nat → (Nat → Int) → (Nat → Int) → AV) : List AV → Sd × AV
  | [.agg [.c (.v (.string s)), .c (.sl 2 n f)]] => (.p (is2 n f ∧ P s n (d0 f) (d1 f)), g s n (d0 f) (d1 f))
  | _ => (.p False, .top)
theorem sO_ok {f : FuncId} {P} {g} (h : ∀ s n p q, P s n p q → Fn1 Try.prog f [offV s n p q] (g s n p q)) : ∀ args, (sO P g args).1.ok → (sO P g args).2.exact.isSome = true → Fn1 Try.prog f args (sO P g args).2 := fun args hs _ => by
  unfold sO at hs ⊢
  split at hs
  · exact (h _ _ _ _ hs.2).le (Le.cons (offV_le hs.1) Le.nil)
  · exact hs.elim
def sOi (P : ByteArray → Nat → (Nat → Int) → (Nat → Int) → Int → Prop) (g : ByteArray → Nat → (Nat → Int) → (Nat → Int) → Int → AV) : List AV → Sd × AV
  | [.agg [.c (.v (.string s)), .c (.sl 2 n f)], .c (.v (.int .i64 x))] => (.p (is2 n f ∧ P s n (d0 f) (d1 f) x), g s n (d0 f) (d1 f) x)
  | _ => (.p False, .top)
theorem sOi_ok {f : FuncId} {P} {g} (h : ∀ s n p q x, P s n p q x → Fn1 Try.prog f [offV s n p q, intV x] (g s n p q x)) : ∀ args, (sOi P g args).1.ok → (sOi P g args).2.exact.isSome = true → Fn1 Try.prog f args (sOi P g args).2 := fun args hs _ => by
  unfold sOi at hs ⊢
  split at hs
  · exact (h _ _ _ _ _ hs.2).le (Le.cons (offV_le hs.1) (Le.cons (Le1.refl _) Le.nil))
  · exact hs.elim

theorem okOff.S0 {n : Nat} {p q : Nat → Int} (h : okOff n p q) {k : Nat} (hk : k ≤ n) : 0 ≤ S p k ∧ S p k ≤ 100000 ∧ (k : Int) ≤ S p k := by
  have := S_le (p := p) (a := 1) (b := 100000) (k := k) fun j hj => by have := h.2.1 j (by omega); omega
  have := h.2.2.2 k hk
  omega

theorem bef_ok {n k : Nat} {p q : Nat → Int} (h : okOff n p q) (hk : k ≤ n) : is2 n (c2 p q) ∧ 0 ≤ (k : Int) ∧ (k : Int) ≤ n ∧ n ≤ 1000 ∧ ∀ i, i < (k : Int).toNat → 0 ≤ d0 (c2 p q) i ∧ d0 (c2 p q) i ≤ 1000000 := by
  have hn := h.1
  refine ⟨is2_c _ _ _, by omega, by omega, by omega, fun i hi => ?_⟩
  rw [Int.toNat_natCast] at hi
  have := h.2.1 i (by omega)
  simp only [DL]
  omega

/-- what step k costs at a power -/
def ct (p q : Nat → Int) (x : Int) (k : Nat) : Int := min (max (x - S p k) 0) (p k) * q k
theorem ct_le {n k : Nat} {p q : Nat → Int} (h : okOff n p q) (x : Int) (hk : k < n) : -100000000000 ≤ ct p q x k ∧ ct p q x k ≤ 100000000000 := by
  have := h.2.1 k hk
  have := mulB (a := min (max (x - S p k) 0) (p k)) (b := q k) (A := 100000) (B := 1000000) (by omega) (by omega) (by omega) (by omega) (by omega)
  unfold ct
  omega
theorem C_le {n : Nat} {p q : Nat → Int} (h : okOff n p q) (x : Int) {k : Nat} (hk : k ≤ n) : -1200000000000 ≤ S (ct p q x) k ∧ S (ct p q x) k ≤ 1200000000000 := by
  have := S_le (p := ct p q x) (a := -100000000000) (b := 100000000000) (k := k) fun j hj => ct_le h x (by omega)
  have := h.1
  omega

/-- the price of unit k -/
def U (p q : Nat → Int) (n : Nat) (k : Int) : Int := match ffind (fun i => decide (k < S p (i + 1))) n with
  | some i => q i
  | none => 2000000
theorem U_at {p q : Nat → Int} {n i : Nat} {k : Int} (h0 : ∀ j, j < i → S p (j + 1) ≤ k) (h1 : k < S p (i + 1)) (hi : i < n) : U p q n k = q i := by
  unfold U
  rw [ffind_at (i := i) (fun j hj => by have := h0 j hj; simp; omega) (by simp [h1]) hi]
theorem U_none {p q : Nat → Int} {n : Nat} {k : Int} (h0 : ∀ j, j < n → S p (j + 1) ≤ k) : U p q n k = 2000000 := by
  unfold U
  rw [ffind_none fun j hj => by have := h0 j hj; simp; omega]

def gamO2 : Gam := fun f => match f with
  | _ => none
theorem gamO2_ok : GOk Try.prog gamO2 := fun f g h => by
  unfold gamO2 at h
  split at h
  · cases h

/-- the error of an offer and a power -/
def offXE (s : ByteArray) (n : Nat) (p q : Nat → Int) (x : Int) : Int := if offE s n p q ≠ 0 then offE s n p q else if x < 0 ∨ S p n < x then 4 else 0
theorem offXE_zero {s : ByteArray} {n : Nat} {p q : Nat → Int} {x : Int} (h : offXE s n p q x = 0) : offE s n p q = 0 ∧ okOff n p q ∧ 0 ≤ x ∧ x ≤ S p n ∧ S p n ≤ 100000 := by
  unfold offXE at h
  split at h
  · rename_i hn; exact absurd h hn
  · rename_i hn
    have hz : offE s n p q = 0 := by simpa using hn
    have ho := (offE_zero hz).2
    have := ho.S0 (Nat.le_refl n)
    split at h
    · cases h
    · exact ⟨hz, ho, by omega, by omega, by omega⟩
/-- the error of an offer and a price -/
def offPE (s : ByteArray) (n : Nat) (p q : Nat → Int) (t : Int) : Int := if offE s n p q ≠ 0 then offE s n p q else if t < -2000000 ∨ 2000000 < t then 4 else 0
theorem offPE_zero {s : ByteArray} {n : Nat} {p q : Nat → Int} {t : Int} (h : offPE s n p q t = 0) : offE s n p q = 0 ∧ okOff n p q ∧ -2000000 ≤ t ∧ t ≤ 2000000 := by
  unfold offPE at h
  split at h
  · rename_i hn; exact absurd h hn
  · rename_i hn
    have hz : offE s n p q = 0 := by simpa using hn
    have ho := (offE_zero hz).2
    split at h
    · cases h
    · exact ⟨hz, ho, by omega, by omega⟩

def gamO3 : Gam := fun f => match f with
  | _ => none
theorem gamO3_ok : GOk Try.prog gamO3 := fun f g h => by
  unfold gamO3 at h
  split at h
  · cases h

/-- the powers of the steps below a price; up to a price -/
def SP1 (p q : Nat → Int) (t : Int) (k : Nat) : Int := if q k < t then p k else 0
def SP2 (p q : Nat → Int) (t : Int) (k : Nat) : Int := if q k ≤ t then p k else 0

theorem SP1_le {n : Nat} {p q : Nat → Int} (h : okOff n p q) (t : Int) : 0 ≤ S (SP1 p q t) n ∧ S (SP1 p q t) n ≤ 100000 := by
  have key : ∀ k, k ≤ n → 0 ≤ S (SP1 p q t) k ∧ S (SP1 p q t) k ≤ S p k := by
    intro k
    induction k with
    | zero => intro _; simp [S]
    | succ k ih =>
      intro hk
      have := ih (by omega)
      have := h.2.1 k (by omega)
      simp only [S, SP1]
      split <;> omega
  have := key n (Nat.le_refl n)
  have := h.2.2.2 n (Nat.le_refl n)
  omega

end Go.Proofs.Ytkkkldhilofgmaa
