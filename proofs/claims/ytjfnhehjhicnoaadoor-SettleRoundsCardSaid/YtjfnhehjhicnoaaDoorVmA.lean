/-
  A small abstract machine over the model's operations: its values, its objects, and what they mean in a world.
-/
import Derived.WalkKit
import Derived.WalkSpells
import Derived.WalkLawsBesides
import Derived.Deep.Quiet
import Derived.Lib.Builder
namespace Go.Proofs.YtjfnhehjhicnoaaDoor
open Go.RowKit

/-- what a cell that nobody writes any more holds -/
inductive L where
  | un
  | v (x : Value)
  | sl (sz n : Nat) (f : Nat → Nat → L)

inductive AV where
  | top
  | c (l : L)
  | agg (cs : List AV)
  | tup (cs : List AV)
  | xp (n : Nat) (f : Nat → L)
  | lp (i off : Nat)
  | own (i : Nat)
  | fn (f : FuncId) (cap : List AV)
  | gd (b : Bool) (a : AV)
  | rp (i sz k j : Nat)
  /-- a part of an own row: from element lo on, n elements -/
  | ov (i sz lo n : Nat)
  /-- a slice that nobody writes, without spare room -/
  | cp (sz n : Nat) (f : Nat → Nat → L)
  /-- object i itself, in a ghost slot -/
  | gh (i : Nat)
  /-- a long array's value, of single cells -/
  | av (n : Nat) (f : Nat → L)
  /-- block g holds these cells and nobody writes it (a variable's table): in a ghost slot -/
  | gt (g : Nat) (cs : Array Value)
  /-- a slice over a whole box of n cells -/
  | sb (i n : Nat)
  /-- row k of a grid, of m cells -/
  | gr (i k m : Nat)
  /-- a pointer to cell j of row k of a grid -/
  | gp (i k j : Nat)

inductive OB where
  | dead
  | box (cs : List AV)
  | row (e sz n : Nat) (sc : Bool) (f : Nat → Nat → L)
  /-- an array's variable -/
  | arr (sz n : Nat) (sc : Bool) (f : Nat → Nat → L)
  /-- a map: its keys and their values -/
  | keys (es : List (Value × Value))
  /-- a row of n own rows of m cells each -/
  | grid (e n m : Nat) (f : Nat → Nat → Value)
  /-- a strings.Builder of type T in block b (its buffer of type e), and its bytes -/
  | bld (T e b : Nat) (l : List UInt8)

def L.scal : L → Bool
  | .v _ => true
  | _ => false

def L.rd (w : World) (I : Nat → Prop) : L → Value → Prop
  | .un, u => u.oneCell' = true
  | .v x, u => u = x ∧ x.oneCell' = true
  | .sl sz n f, u => ∃ A cap, u = .slice A n cap ∧ n ≤ cap ∧ cap ≤ maxLen ∧
      (0 < n → ∃ a : Addr, A = some a ∧ I a.block ∧ ∀ k, k < n → ∀ j, j < sz → ∃ c, w.cell? (a.add (k * sz + j)) = some c ∧ L.rd w I (f k j) c)

def L.val : L → Value
  | .v x => x
  | _ => undef

theorem L.rd_one {w : World} {I : Nat → Prop} {l : L} {u : Value} (h : l.rd w I u) : u.oneCell' = true := by
  cases l with
  | un => exact h
  | v x => obtain ⟨rfl, h⟩ := h; exact h
  | sl sz n f => obtain ⟨A, cap, rfl, _⟩ := h; rfl

theorem L.rd_scal {w w' : World} {I I' : Nat → Prop} {l : L} {u : Value} (hs : l.scal = true) (h : l.rd w I u) : l.rd w' I' u := by
  cases l with
  | v x => exact h
  | un => cases hs
  | sl => cases hs

/-- the blocks of 'I' are in w' as they are in w -/
def Keeps (I : Nat → Prop) (w w' : World) : Prop := ∀ b, I b → w'.heap[b]? = w.heap[b]?

theorem Keeps.refl (I : Nat → Prop) (w : World) : Keeps I w w := fun _ _ => rfl
theorem Keeps.trans {I J : Nat → Prop} {a b c : World} (h : Keeps I a b) (k : Keeps J b c) (hs : ∀ x, I x → J x) : Keeps I a c := fun x hx => (k x (hs x hx)).trans (h x hx)

theorem cell_keep {w w' : World} {a : Addr} (h : w'.heap[a.block]? = w.heap[a.block]?) : w'.cell? a = w.cell? a := World.cell?_of_block h
theorem add_block (a : Addr) (n : Nat) : (a.add n).block = a.block := by unfold Addr.add; split <;> rfl
theorem add_lit (b o n : Nat) : (⟨b, o, none⟩ : Addr).add n = ⟨b, o + n, none⟩ := by unfold Addr.add; split <;> simp_all
theorem add_add (a : Addr) (i j : Nat) : (a.add i).add j = a.add (i + j) := by
  unfold Addr.add
  by_cases hi : i = 0 <;> by_cases hj : j = 0 <;> simp [hi, hj, Nat.add_assoc]

theorem L.rd_mono {w w' : World} {I I' : Nat → Prop} (hk : Keeps I w w') (hI : ∀ b, I b → I' b) : ∀ {l : L} {u : Value}, l.rd w I u → l.rd w' I' u := by
  intro l
  induction l with
  | un => exact fun h => h
  | v x => exact fun h => h
  | sl sz n f ih =>
    rintro u ⟨A, cap, rfl, h1, h2, h3⟩
    refine ⟨A, cap, rfl, h1, h2, fun hn => ?_⟩
    obtain ⟨a, e, hb, hc⟩ := h3 hn
    refine ⟨a, e, hI _ hb, fun k hk' j hj => ?_⟩
    obtain ⟨c, e1, e2⟩ := hc k hk' j hj
    exact ⟨c, (cell_keep (w := w) (w' := w') (by rw [add_block]; exact hk _ hb)).trans e1, ih k j e2⟩

structure Asg where
  cnt : Nat
  blk : Nat → Option Nat
  hdr : Nat → Value
  sub : Nat → List Nat

def Asg.zero : Asg := ⟨0, fun _ => none, fun _ => undef, fun _ => []⟩
/-- block b is object i's -/
def Asg.has (σ : Asg) (i b : Nat) : Prop := σ.blk i = some b ∨ ∃ k : Nat, (σ.sub i)[k]? = some b

/-- σ' goes on from σ -/
structure Asg.le (σ σ' : Asg) : Prop where
  cnt : σ.cnt ≤ σ'.cnt
  blk : ∀ i, i < σ.cnt → σ'.blk i = σ.blk i
  hdr : ∀ i, i < σ.cnt → σ'.hdr i = σ.hdr i
  sub : ∀ i, i < σ.cnt → σ'.sub i = σ.sub i

theorem Asg.le_refl (σ : Asg) : σ.le σ := ⟨Nat.le_refl _, fun _ _ => rfl, fun _ _ => rfl, fun _ _ => rfl⟩
theorem Asg.le_trans {a b c : Asg} (h : a.le b) (k : b.le c) : a.le c :=
  ⟨Nat.le_trans h.cnt k.cnt, fun i hi => (k.blk i (Nat.lt_of_lt_of_le hi h.cnt)).trans (h.blk i hi), fun i hi => (k.hdr i (Nat.lt_of_lt_of_le hi h.cnt)).trans (h.hdr i hi), fun i hi => (k.sub i (Nat.lt_of_lt_of_le hi h.cnt)).trans (h.sub i hi)⟩
theorem Asg.zero_le (σ : Asg) : Asg.zero.le σ := ⟨Nat.zero_le _, fun i hi => absurd hi (by simp [Asg.zero]), fun i hi => absurd hi (by simp [Asg.zero]), fun i hi => absurd hi (by simp [Asg.zero])⟩
theorem Asg.le.has {σ σ' : Asg} (h : σ.le σ') {i b : Nat} (hi : i < σ.cnt) : σ'.has i b ↔ σ.has i b := by
  unfold Asg.has
  rw [h.blk i hi, h.sub i hi]

def blkV : Option Nat → Value
  | some b => .pointer (some ⟨b, 0, none⟩)
  | none => undef
theorem blkV_inj : ∀ {a b : Option Nat}, blkV a = blkV b → a = b
  | some a, some b, h => by simp only [blkV] at h; injection h with h; injection h with h; injection h with h; rw [h]
  | none, none, _ => rfl
  | some a, none, h => by simp [blkV, undef] at h
  | none, some b, h => by simp [blkV, undef] at h

def subV (l : List Nat) : Value := .tuple (l.map fun b : Nat => Value.int .i64 b).toArray
theorem subV_inj : ∀ {a b : List Nat}, subV a = subV b → a = b := fun {a b} h => by
  simp only [subV] at h
  injection h with h
  have h := List.toArray_inj h
  induction a generalizing b with
  | nil => cases b with
    | nil => rfl
    | cons y b => simp at h
  | cons x a ih => cases b with
    | nil => simp at h
    | cons y b =>
      simp only [List.map_cons, List.cons.injEq] at h
      obtain ⟨h1, h2⟩ := h
      injection h1 with _ h1
      rw [Int.ofNat.inj h1, ih (congrArg List.toArray h2) h2]

mutual
def Den (σ : Asg) (I : Nat → Prop) (w : World) : AV → Value → Prop
  | .top, _ => True
  | .c l, u => l.rd w I u
  | .agg cs, u => ∃ us : List Value, u = .agg us.toArray ∧ DenL σ I w cs us ∧ ∀ x ∈ us, x.oneCell' = true
  | .tup cs, u => ∃ us : List Value, u = .tuple us.toArray ∧ DenL σ I w cs us
  | .xp n f, u => ∃ a : Addr, u = .pointer (some a) ∧ I a.block ∧ ∀ j, j < n → ∃ c, w.cell? (a.add j) = some c ∧ (f j).rd w I c
  | .lp i off, u => i < σ.cnt ∧ ∃ b, σ.blk i = some b ∧ u = .pointer (some ⟨b, off, none⟩)
  | .own i, u => i < σ.cnt ∧ u = σ.hdr i ∧ u.oneCell' = true
  | .fn f cap, u => ∃ us : List Value, u = .func (.func f) #[] us.toArray ∧ DenL σ I w cap us
  | .gd b a, u => (b = true → Den σ I w a u) ∧ (b = false → u = undef)
  | .rp i sz k j, u => i < σ.cnt ∧ ∃ b, σ.blk i = some b ∧ u = .pointer (some ⟨b, k * sz + j, none⟩)
  | .ov i sz lo n, u => i < σ.cnt ∧ ∃ A cap, u = .slice A n cap ∧ n ≤ cap ∧ cap ≤ maxLen ∧ (0 < cap → ∃ b m C, σ.hdr i = .slice (some ⟨b, 0, none⟩) m C ∧ A = some ⟨b, lo * sz, none⟩ ∧ lo + n ≤ m ∧ lo + cap ≤ C)
  | .cp sz n f, u => (L.sl sz n f).rd w I u ∧ ∃ A, u = .slice A n n
  | .gh i, u => i < σ.cnt ∧ u = .tuple #[σ.hdr i, blkV (σ.blk i), subV (σ.sub i)]
  | .av n f, u => ∃ us : List Value, u = .agg us.toArray ∧ us.length = n ∧ ∀ j, j < n → ∃ c, us[j]? = some c ∧ (f j).rd w I c
  | .gt g cs, _ => I g ∧ ∃ ty fr, w.heap[g]? = some (.cells cs ty fr)
  | .sb i n, u => i < σ.cnt ∧ ∃ b, σ.blk i = some b ∧ u = .slice (some ⟨b, 0, none⟩) n n ∧ n ≤ maxLen
  | .gr i k m, u => i < σ.cnt ∧ ∃ b cap, (σ.sub i)[k]? = some b ∧ u = .slice (some ⟨b, 0, none⟩) m cap ∧ m ≤ cap ∧ cap ≤ maxLen
  | .gp i k j, u => i < σ.cnt ∧ ∃ b, (σ.sub i)[k]? = some b ∧ u = .pointer (some ⟨b, j, none⟩)
def DenL (σ : Asg) (I : Nat → Prop) (w : World) : List AV → List Value → Prop
  | [], us => us = []
  | a :: as, us => ∃ u us', us = u :: us' ∧ Den σ I w a u ∧ DenL σ I w as us'
end

section
variable {σ σ' : Asg} {I I' : Nat → Prop} {w w' : World}

mutual
theorem Den.mono (hs : σ.le σ') (hk : Keeps I w w') (hI : ∀ b, I b → I' b) : ∀ {a : AV} {u : Value}, Den σ I w a u → Den σ' I' w' a u
  | .top, _, _ => trivial
  | .c l, u, h => by
    simp only [Den] at h ⊢
    exact L.rd_mono hk hI h
  | .agg cs, u, h => by
    simp only [Den] at h ⊢
    obtain ⟨us, e, h1, h2⟩ := h
    exact ⟨us, e, DenL.mono hs hk hI h1, h2⟩
  | .tup cs, u, h => by
    simp only [Den] at h ⊢
    obtain ⟨us, e, h1⟩ := h
    exact ⟨us, e, DenL.mono hs hk hI h1⟩
  | .xp n f, u, h => by
    simp only [Den] at h ⊢
    obtain ⟨a, e, hb, hc⟩ := h
    refine ⟨a, e, hI _ hb, fun j hj => ?_⟩
    obtain ⟨c, e1, e2⟩ := hc j hj
    exact ⟨c, (cell_keep (w := w) (w' := w') (by rw [add_block]; exact hk _ hb)).trans e1, L.rd_mono hk hI e2⟩
  | .lp i off, u, h => by
    simp only [Den] at h ⊢
    obtain ⟨h1, b, h2, h3⟩ := h
    exact ⟨Nat.lt_of_lt_of_le h1 hs.cnt, b, (hs.blk i h1).trans h2, h3⟩
  | .own i, u, h => by
    simp only [Den] at h ⊢
    exact ⟨Nat.lt_of_lt_of_le h.1 hs.cnt, h.2.1.trans (hs.hdr i h.1).symm, h.2.2⟩
  | .fn f cap, u, h => by
    simp only [Den] at h ⊢
    obtain ⟨us, e, h1⟩ := h
    exact ⟨us, e, DenL.mono hs hk hI h1⟩
  | .gd b a, u, h => by
    simp only [Den] at h ⊢
    exact ⟨fun hb => Den.mono hs hk hI (h.1 hb), h.2⟩
  | .rp i sz k j, u, h => by
    simp only [Den] at h ⊢
    obtain ⟨h1, b, h2, h3⟩ := h
    exact ⟨Nat.lt_of_lt_of_le h1 hs.cnt, b, (hs.blk i h1).trans h2, h3⟩
  | .ov i sz lo n, u, h => by
    simp only [Den] at h ⊢
    obtain ⟨h1, A, cap, h2, h3, h4, h5⟩ := h
    refine ⟨Nat.lt_of_lt_of_le h1 hs.cnt, A, cap, h2, h3, h4, fun h0 => ?_⟩
    rw [hs.hdr i h1]
    exact h5 h0
  | .cp sz n f, u, h => by
    simp only [Den] at h ⊢
    exact ⟨L.rd_mono hk hI h.1, h.2⟩
  | .gh i, u, h => by
    simp only [Den] at h ⊢
    exact ⟨Nat.lt_of_lt_of_le h.1 hs.cnt, by rw [hs.hdr i h.1, hs.blk i h.1, hs.sub i h.1]; exact h.2⟩
  | .av n f, u, h => by
    simp only [Den] at h ⊢
    obtain ⟨us, e, h1, h2⟩ := h
    exact ⟨us, e, h1, fun j hj => by
      obtain ⟨c, e1, e2⟩ := h2 j hj
      exact ⟨c, e1, L.rd_mono hk hI e2⟩⟩
  | .gt g cs, u, h => by
    simp only [Den] at h ⊢
    obtain ⟨hg, ty, fr, e⟩ := h
    exact ⟨hI _ hg, ty, fr, (hk g hg).trans e⟩
  | .sb i n, u, h => by
    simp only [Den] at h ⊢
    obtain ⟨h1, b, h2, h3⟩ := h
    exact ⟨Nat.lt_of_lt_of_le h1 hs.cnt, b, (hs.blk i h1).trans h2, h3⟩
  | .gr i k m, u, h => by
    simp only [Den] at h ⊢
    rw [hs.sub i h.1]
    exact ⟨Nat.lt_of_lt_of_le h.1 hs.cnt, h.2⟩
  | .gp i k j, u, h => by
    simp only [Den] at h ⊢
    rw [hs.sub i h.1]
    exact ⟨Nat.lt_of_lt_of_le h.1 hs.cnt, h.2⟩
theorem DenL.mono (hs : σ.le σ') (hk : Keeps I w w') (hI : ∀ b, I b → I' b) : ∀ {as : List AV} {us : List Value}, DenL σ I w as us → DenL σ' I' w' as us
  | [], us, h => by simp only [DenL] at h ⊢; exact h
  | a :: as, us, h => by
    simp only [DenL] at h ⊢
    obtain ⟨u, us', e, h1, h2⟩ := h
    exact ⟨u, us', e, Den.mono hs hk hI h1, DenL.mono hs hk hI h2⟩
end

theorem DenL.get : ∀ {as : List AV} {us : List Value}, DenL σ I w as us → ∀ (j : Nat) (a : AV), as[j]? = some a → ∃ u, us[j]? = some u ∧ Den σ I w a u
  | [], _, _, j, a, e => by simp at e
  | a0 :: as, us, h, j, a, e => by
    simp only [DenL] at h
    obtain ⟨u, us', rfl, h1, h2⟩ := h
    cases j with
    | zero => simp at e; subst e; exact ⟨u, rfl, h1⟩
    | succ j => simp at e; obtain ⟨x, e1, e2⟩ := DenL.get h2 j a e; exact ⟨x, by simpa using e1, e2⟩
theorem DenL.len : ∀ {as : List AV} {us : List Value}, DenL σ I w as us → us.length = as.length
  | [], _, h => by simp only [DenL] at h; subst h; rfl
  | a0 :: as, us, h => by
    simp only [DenL] at h
    obtain ⟨u, us', rfl, h1, h2⟩ := h
    simp [DenL.len h2]
end

/-- the row's cells lie in a block of its own; or it has no element, and whatever empty header -/
def RowRel (σ : Asg) (I : Nat → Prop) (w : World) (i e sz n : Nat) (f : Nat → Nat → L) : Prop :=
  (n = 0 ∧ (∃ A, σ.hdr i = .slice A 0 0) ∧ σ.blk i = none) ∨
  ((σ.hdr i).ownBlock = σ.blk i ∧ ∃ xs, w.ownsRow 0 e sz (σ.hdr i) n xs ∧ (∀ x ∈ xs, x.oneCell' = true) ∧ ∀ k, k < n → ∀ j, j < sz → ∃ c, xs[k * sz + j]? = some c ∧ (f k j).rd w I c)

/-- a row of slices over blocks of their own -/
structure GridRel (w : World) (hdr : Value) (blk : Option Nat) (sub : List Nat) (e n m : Nat) (f : Nat → Nat → Value) : Prop where
  row : hdr.ownBlock = blk ∧ ∃ xs, w.ownsRow 0 e 1 hdr n xs ∧ ∀ k, k < n → ∃ b cap, sub[k]? = some b ∧ xs[k]? = some (.slice (some ⟨b, 0, none⟩) m cap) ∧ m ≤ cap ∧ cap ≤ maxLen
  inn : ∀ k, k < n → ∃ b ys ty, sub[k]? = some b ∧ w.heap[b]? = some (.cells (List.toArray ys) ty (0, 0)) ∧ m ≤ ys.length ∧ ∀ j, j < m → ys[j]? = some (f k j) ∧ (f k j).oneCell' = true
  size : sub.length = n
  inj : ∀ (k k' : Nat) b, sub[k]? = some b → sub[k']? = some b → k = k'
  out : ∀ (k : Nat) b, sub[k]? = some b → blk ≠ some b

theorem GridRel.mono {w w' : World} {hdr : Value} {blk : Option Nat} {sub : List Nat} {e n m : Nat} {f : Nat → Nat → Value} (h : GridRel w hdr blk sub e n m f)
    (hb : ∀ b, (blk = some b ∨ ∃ k : Nat, sub[k]? = some b) → w'.heap[b]? = w.heap[b]?) : GridRel w' hdr blk sub e n m f := by
  obtain ⟨h0, xs, h1, h2⟩ := h.row
  refine ⟨⟨h0, xs, ⟨h1.1, ?_⟩, h2⟩, fun k hk => ?_, h.size, h.inj, h.out⟩
  · rcases h1.2 with h5 | ⟨g, cap, cur, e1, e2, e3, e4⟩
    · exact .inl h5
    · refine .inr ⟨g, cap, cur, e1, e2, ?_, e4⟩
      rw [hb g (.inl (by rw [← h0, e1]; rfl))]
      exact e3
  · obtain ⟨b, ys, ty, q1, q2, q3⟩ := h.inn k hk
    exact ⟨b, ys, ty, q1, (hb b (.inr ⟨k, q1⟩)).trans q2, q3⟩

/-- a builder's bytes, as cells -/
def bcs (l : List UInt8) : List Value := l.map fun b => .int .u8 (b.toNat : Int)
/-- a strings.Builder and its buffer -/
structure BldRel (w : World) (blk : Option Nat) (sub : List Nat) (T e b : Nat) (l : List UInt8) : Prop where
  blk : blk = some b
  ex : ∃ p v, w.heap[b]? = some (.cells #[p, v] T (0, 0)) ∧ (p = .pointer none ∨ p = .pointer (some ⟨b, 0, none⟩)) ∧ w.ownsRow 0 e 1 v l.length (bcs l) ∧ v.ownBlock ≠ some b ∧ ∀ g, v.ownBlock = some g → sub = [g]
theorem BldRel.mono {w w' : World} {blk : Option Nat} {sub : List Nat} {T e b : Nat} {l : List UInt8} (h : BldRel w blk sub T e b l) (hb : ∀ x, (blk = some x ∨ ∃ k : Nat, sub[k]? = some x) → w'.heap[x]? = w.heap[x]?) : BldRel w' blk sub T e b l := by
  obtain ⟨h0, p, v, h1, h2, h3, h4, h5⟩ := h
  refine ⟨h0, p, v, (hb b (.inl h0)).trans h1, h2, ⟨h3.1, ?_⟩, h4, h5⟩
  rcases h3.2 with h6 | ⟨g, cap, cur, e1, e2, e3, e4⟩
  · exact .inl h6
  · refine .inr ⟨g, cap, cur, e1, e2, ?_, e4⟩
    rw [hb g (.inr ⟨0, by rw [h5 g (by rw [e1]; rfl)]; rfl⟩)]
    exact e3

def ObjRel (σ : Asg) (I : Nat → Prop) (w : World) (i : Nat) : OB → Prop
  | .dead => True
  | .box cs => ∃ b us ty, σ.blk i = some b ∧ w.heap[b]? = some (.cells (List.toArray us) ty (0, 0)) ∧ DenL σ I w cs us ∧ ∀ x ∈ us, x.oneCell' = true
  | .row e sz n sc f => RowRel σ I w i e sz n f ∧ (sc = true → ∀ k j, (f k j).scal = true)
  | .arr sz n sc f => (∃ b xs ty, σ.blk i = some b ∧ w.heap[b]? = some (.cells (List.toArray xs) ty (0, 0)) ∧ xs.length = n * sz ∧ (∀ x ∈ xs, x.oneCell' = true) ∧ ∀ k, k < n → ∀ j, j < sz → ∃ c, xs[k * sz + j]? = some c ∧ (f k j).rd w I c) ∧ (sc = true → ∀ k j, (f k j).scal = true)
  | .keys ks => ∃ b es clock, σ.blk i = some b ∧ σ.hdr i = .map (some b) ∧ w.heap[b]? = some (.map es clock) ∧ es.toList.map (fun e => (e.key, e.val)) = ks
  | .grid e n m f => GridRel w (σ.hdr i) (σ.blk i) (σ.sub i) e n m f
  | .bld T e b l => BldRel w (σ.blk i) (σ.sub i) T e b l

def OB.live : OB → Bool
  | .dead => false
  | _ => true

structure Store (σ : Asg) (I : Nat → Prop) (w : World) (B : Nat → Prop) (obs : List OB) : Prop where
  cnt : σ.cnt = obs.length
  imm : ∀ b, I b → b < w.heap.size
  obj : ∀ i o, obs[i]? = some o → ObjRel σ I w i o
  freshH : ∀ i o b, obs[i]? = some o → o.live = true → σ.has i b → B b ∧ ¬ I b ∧ b < w.heap.size
  injH : ∀ i j oi oj b, obs[i]? = some oi → obs[j]? = some oj → oi.live = true → oj.live = true → σ.has i b → σ.has j b → i = j

theorem Store.fresh {σ : Asg} {I : Nat → Prop} {w : World} {B : Nat → Prop} {obs : List OB} (h : Store σ I w B obs) (i : Nat) (o : OB) (b : Nat) (e : obs[i]? = some o) (hl : o.live = true) (hb : σ.blk i = some b) : B b ∧ ¬ I b ∧ b < w.heap.size :=
  h.freshH i o b e hl (.inl hb)
theorem Store.inj {σ : Asg} {I : Nat → Prop} {w : World} {B : Nat → Prop} {obs : List OB} (h : Store σ I w B obs) (i j : Nat) (oi oj : OB) (b : Nat) (ei : obs[i]? = some oi) (ej : obs[j]? = some oj) (li : oi.live = true) (lj : oj.live = true)
    (bi : σ.blk i = some b) (bj : σ.blk j = some b) : i = j := h.injH i j oi oj b ei ej li lj (.inl bi) (.inl bj)

theorem RowRel.mono {σ σ' : Asg} {I I' : Nat → Prop} {w w' : World} {i i' e sz n : Nat} {f : Nat → Nat → L} (hd : σ'.hdr i' = σ.hdr i) (hbl : σ'.blk i' = σ.blk i) (hk : Keeps I w w') (hI : ∀ b, I b → I' b)
    (hb : ∀ b, σ.blk i = some b → w'.heap[b]? = w.heap[b]?) (h : RowRel σ I w i e sz n f) : RowRel σ' I' w' i' e sz n f := by
  rcases h with ⟨h0, h1, h2⟩ | ⟨h0, xs, h1, h2, h3⟩
  · exact .inl ⟨h0, by rw [hd]; exact h1, by rw [hbl]; exact h2⟩
  · refine .inr ⟨by rw [hd, hbl]; exact h0, xs, ?_, h2, fun k hk' j hj => ?_⟩
    · rw [hd]
      refine ⟨h1.1, ?_⟩
      rcases h1.2 with h5 | ⟨g, cap, cur, e1, e2, e3, e4⟩
      · exact .inl h5
      · refine .inr ⟨g, cap, cur, e1, e2, ?_, e4⟩
        rw [hb g (by rw [← h0, e1]; rfl)]
        exact e3
    · obtain ⟨c, e1, e2⟩ := h3 k hk' j hj
      exact ⟨c, e1, L.rd_mono hk hI e2⟩

theorem ObjRel.mono {σ σ' : Asg} {I I' : Nat → Prop} {w w' : World} {i : Nat} {o : OB} (hs : σ.le σ') (hi : i < σ.cnt) (hk : Keeps I w w') (hI : ∀ b, I b → I' b)
    (hbH : ∀ b, σ.has i b → w'.heap[b]? = w.heap[b]?) (h : ObjRel σ I w i o) : ObjRel σ' I' w' i o := by
  have hb : ∀ b, σ.blk i = some b → w'.heap[b]? = w.heap[b]? := fun b h => hbH b (.inl h)
  cases o with
  | dead => trivial
  | grid e n m f =>
    show GridRel _ _ _ _ _ _ _ _
    rw [hs.hdr i hi, hs.blk i hi, hs.sub i hi]
    exact GridRel.mono h hbH
  | bld T e b l =>
    show BldRel _ _ _ _ _ _ _
    rw [hs.blk i hi, hs.sub i hi]
    exact BldRel.mono h hbH
  | box cs =>
    obtain ⟨b, us, ty, h1, h2, h3, h4⟩ := h
    exact ⟨b, us, ty, (hs.blk i hi).trans h1, (hb b h1).trans h2, h3.mono hs hk hI, h4⟩
  | row e sz n sc f => exact ⟨h.1.mono (hs.hdr i hi) (hs.blk i hi) hk hI hb, h.2⟩
  | arr sz n sc f =>
    obtain ⟨⟨b, xs, ty, h1, h2, h3, h4, h5⟩, h6⟩ := h
    exact ⟨⟨b, xs, ty, (hs.blk i hi).trans h1, (hb b h1).trans h2, h3, h4, fun k hk' j hj => by
      obtain ⟨c, e1, e2⟩ := h5 k hk' j hj
      exact ⟨c, e1, L.rd_mono hk hI e2⟩⟩, h6⟩
  | keys ks =>
    obtain ⟨b, es, clock, h1, h2, h3, h4⟩ := h
    exact ⟨b, es, clock, (hs.blk i hi).trans h1, (hs.hdr i hi).trans h2, (hb b h1).trans h3, h4⟩

/-- a row with an element lies in its block -/
theorem RowRel.at {σ : Asg} {I : Nat → Prop} {w : World} {i e sz n : Nat} {f : Nat → Nat → L} (h : RowRel σ I w i e sz n f) (hn : 0 < n) :
    ∃ g cap cur xs, σ.hdr i = .slice (some ⟨g, 0, none⟩) n cap ∧ σ.blk i = some g ∧ w.heap[g]? = some (.cells cur e (0, 0)) ∧ n ≤ cap ∧ cap ≤ maxLen ∧ cur.size = cap * sz ∧ cur.toList.take (n * sz) = xs ∧ xs.length = n * sz ∧
      (∀ x ∈ xs, x.oneCell' = true) ∧ (∀ k, k < n → ∀ j, j < sz → ∃ c, xs[k * sz + j]? = some c ∧ (f k j).rd w I c) ∧ ∀ j u, xs[j]? = some u → w.cell? ⟨g, j, none⟩ = some u := by
  rcases h with ⟨h0, _⟩ | ⟨h0, xs, h1, h2, h3⟩
  · omega
  · have hrow := h1
    rcases h1.2 with ⟨_, h5⟩ | ⟨g, cap, cur, e1, _, e3, e4, e5, e6, e7⟩
    · omega
    · refine ⟨g, cap, cur, xs, e1, by rw [← h0, e1]; rfl, e3, e4, e5, e6, e7, h1.1, h2, h3, fun j u hj => ?_⟩
      have := hrow.cells (g := g) (by rw [e1]; rfl) j u hj
      rwa [add_lit, Nat.zero_add] at this

/-- a row with room lies at the head of its block -/
theorem RowRel.room {σ : Asg} {I : Nat → Prop} {w : World} {i e sz n : Nat} {f : Nat → Nat → L} (h : RowRel σ I w i e sz n f) {A : Option Addr} {cap : Nat} (e0 : σ.hdr i = .slice A n cap) (hc : 0 < cap) : ∃ g, A = some ⟨g, 0, none⟩ := by
  rcases h with ⟨h0, ⟨A', hA⟩, _⟩ | ⟨h0, xs, h1, h2, h3⟩
  · rw [hA] at e0; injection e0 with _ _ e0; omega
  · rcases h1.2 with ⟨e1, e2⟩ | ⟨g, cap', cur, e1, e3⟩
    · rw [e1] at e0; injection e0 with _ _ e0; omega
    · rw [e1] at e0; injection e0 with e0; exact ⟨g, e0.symm⟩

/-- how long the header says that it is -/
theorem RowRel.len {σ : Asg} {I : Nat → Prop} {w : World} {i e sz n : Nat} {f : Nat → Nat → L} (h : RowRel σ I w i e sz n f) : ∃ A cap, σ.hdr i = .slice A n cap ∧ n ≤ cap ∧ cap ≤ maxLen := by
  rcases h with ⟨h0, ⟨A, hA⟩, _⟩ | ⟨h0, xs, h1, h2, h3⟩
  · subst h0; exact ⟨A, 0, hA, Nat.le_refl _, Nat.zero_le _⟩
  · rcases h1.2 with ⟨e1, e2⟩ | ⟨g, cap, cur, e1, _, e3, e4, e5, _⟩
    · subst e2; exact ⟨none, 0, e1, Nat.le_refl _, Nat.zero_le _⟩
    · exact ⟨_, cap, e1, e4, e5⟩

/-- nothing that was there has turned -/
structure Same (w w' : World) : Prop where
  os : w'.os = w.os
  tape : w'.tape = w.tape
  output : w'.output = w.output
  size : w.heap.size ≤ w'.heap.size
  block : ∀ b, b < w.heap.size → w'.heap[b]? = w.heap[b]?

theorem Same.refl (w : World) : Same w w := ⟨rfl, rfl, rfl, Nat.le_refl _, fun _ _ => rfl⟩
theorem Same.trans {a b c : World} (h : Same a b) (k : Same b c) : Same a c :=
  ⟨k.os.trans h.os, k.tape.trans h.tape, k.output.trans h.output, Nat.le_trans h.size k.size, fun x hx => (k.block x (Nat.lt_of_lt_of_le hx h.size)).trans (h.block x hx)⟩
theorem Same.below {w w' : World} (h : Same w w') (B : Nat) (hB : B ≤ w.heap.size) : Below B w w' := ⟨h.os, h.tape, h.output, h.size, fun b hb => h.block b (by omega)⟩
theorem Same.of_below {w w' : World} (h : Below w.heap.size w w') : Same w w' := ⟨h.os, h.tape, h.output, h.size, h.block⟩
theorem Same.keeps {w w' : World} {I : Nat → Prop} (h : Same w w') (hI : ∀ b, I b → b < w.heap.size) : Keeps I w w' := fun b hb => h.block b (hI b hb)
theorem Same.drew (w : World) : Same w w.drew := ⟨rfl, rfl, rfl, Nat.le_refl _, fun _ _ => rfl⟩
theorem Same.alloc (w : World) (o : Obj) : Same w (w.alloc o) := ⟨rfl, rfl, rfl, by simp, fun b hb => Below.heap_alloc w o b hb⟩

theorem Store.same {σ : Asg} {I : Nat → Prop} {w w' : World} {B : Nat → Prop} {obs : List OB} (h : Store σ I w B obs) (hw : Same w w') : Store σ I w' B obs := by
  refine ⟨h.cnt, fun b hb => Nat.lt_of_lt_of_le (h.imm b hb) hw.size, fun i o e => ?_, fun i o b e1 e2 e3 => ?_, h.injH⟩
  · by_cases hl : o.live = true
    · refine (h.obj i o e).mono (Asg.le_refl σ) ?_ (hw.keeps h.imm) (fun _ h => h) (fun b hb => hw.block b (h.freshH i o b e hl hb).2.2)
      rw [h.cnt]
      exact (List.getElem?_eq_some_iff.1 e).1
    · cases o with
      | dead => trivial
      | box => exact absurd rfl hl
      | row => exact absurd rfl hl
      | arr => exact absurd rfl hl
      | keys => exact absurd rfl hl
      | bld => exact absurd rfl hl
      | grid => exact absurd rfl hl
  · obtain ⟨a, b', c⟩ := h.freshH i o b e1 e2 e3
    exact ⟨a, b', Nat.lt_of_lt_of_le c hw.size⟩

end Go.Proofs.YtjfnhehjhicnoaaDoor
