/-
  Lists of offers: CheckAll and the reference's error of a list.
-/
import Derived.Test.YtemfikdogdadnaaOffTwo
namespace Go.Proofs.Ytemfikdogdadnaa
open Go.RowKit

/-- a list of offers -/
def cO (s : Nat → ByteArray) (m : Nat → Nat) (p q : Nat → Nat → Int) : Nat → Nat → L := fun k j => [sL (s k), .sl 2 (m k) (c2 (p k) (q k))].getD j .un
def oM (f : Nat → Nat → L) : Nat → Nat := fun k => lN (f k 1)
def oP (f : Nat → Nat → L) : Nat → Nat → Int := fun k => d0 (lF (f k 1))
def oQ (f : Nat → Nat → L) : Nat → Nat → Int := fun k => d1 (lF (f k 1))
/-- f is a list of offers -/
def isO (n : Nat) (f : Nat → Nat → L) : Prop := ShL n 2 f (cO (dS f) (oM f) (oP f) (oQ f)) ∧ n ≤ maxLen ∧ ∀ k, k < n → (dS f k).size ≤ maxLen ∧ oM f k ≤ maxLen

/-- the error of offer i of a list; of the list -/
def lsE (s : Nat → ByteArray) (m : Nat → Nat) (p q : Nat → Nat → Int) (i : Nat) : Int := if offE (s i) (m i) (p i) (q i) ≠ 0 then offE (s i) (m i) (p i) (q i) else if dupB s (s i) i = true then 7 else 0
def offsE (n : Nat) (s : Nat → ByteArray) (m : Nat → Nat) (p q : Nat → Nat → Int) : Int := if 10 < n then 2 else fst (lsE s m p q) n

def gamL1 : Gam := fun f => match f with
  | 107 => some (sO (fun s n _ _ => s.size ≤ maxLen ∧ n ≤ maxLen) fun s n p q => intV (offE s n p q))
  | 97 => some (sO (fun s n _ _ => s.size ≤ maxLen ∧ n ≤ maxLen) fun s n p q => intV (offE s n p q))
  | _ => none
theorem gamL1_ok : GOk Try.prog gamL1 := fun f g h => by
  unfold gamL1 at h
  split at h
  · injection h with h; subst h; exact sO_ok fun s n p q hp => offCheck s n p q hp.1 hp.2
  · injection h with h; subst h; exact sO_ok fun s n p q hp => offError s n p q hp.1 hp.2
  · cases h

def sOl (g : Nat → (Nat → ByteArray) → (Nat → Nat) → (Nat → Nat → Int) → (Nat → Nat → Int) → AV) : List AV → Sd × AV
  | [.c (.sl 2 n f)] => (.p (isO n f), g n (dS f) (oM f) (oP f) (oQ f))
  | _ => (.p False, .top)
theorem sOl_ok {f : FuncId} {g} (h : ∀ s m p q n, n ≤ maxLen → (∀ k, k < n → (s k).size ≤ maxLen ∧ m k ≤ maxLen) → Fn1 Try.prog f [.c (.sl 2 n (cO s m p q))] (g n s m p q)) : ∀ args, (sOl g args).1.ok → (sOl g args).2.exact.isSome = true → Fn1 Try.prog f args (sOl g args).2 := fun args hs _ => by
  unfold sOl at hs ⊢
  split at hs
  · exact (h _ _ _ _ _ hs.2.1 hs.2.2).le (Le.cons (Le1.l (LLe.sl hs.1)) Le.nil)
  · exact hs.elim
theorem isO_c {n : Nat} {s : Nat → ByteArray} {m : Nat → Nat} {p q : Nat → Nat → Int} (hn : n ≤ maxLen) (hk : ∀ k, k < n → (s k).size ≤ maxLen ∧ m k ≤ maxLen) : isO n (cO s m p q) :=
  ⟨fun _ _ _ _ => LLe.of_eq rfl, hn, hk⟩

end Go.Proofs.Ytemfikdogdadnaa
