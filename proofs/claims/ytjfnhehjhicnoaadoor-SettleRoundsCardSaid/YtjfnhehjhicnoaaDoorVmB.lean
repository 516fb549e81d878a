/-
  The pure operations of the machine: what each yields, what it asks, and that the model's own operation does so.
-/
import Derived.Test.YtjfnhehjhicnoaaDoorVmA
import Derived.Laws.StructEq
import Derived.Laws.Pointers
import Derived.ChangeKeysEq
namespace Go.Proofs.YtjfnhehjhicnoaaDoor
open Go.RowKit

/-- what the machine knows of a type -/
inductive TD where
  | one
  | int (k : IntKind)
  | str
  | slice (e : TypeId)
  | struct (fs : List (Nat × TypeId))
  | array (n : Nat) (e : TypeId)

def TD.of : TypeDesc → TD
  | .int k => .int k
  | .string => .str
  | .slice e => .slice e
  | .struct F => .struct (F.toList.map fun f => (f.offset, f.type))
  | .array n e => .array n e
  | _ => .one

def TD.agg : TD → Bool
  | .struct _ | .array _ _ => true
  | _ => false

/-- how values of a type are compared -/
inductive Cmp where
  | no
  | bool
  | st (ks : List Nat)
  | ptr
  /-- an array of so many cells of a kind -/
  | ar (n k : Nat)

structure TE where
  td : TD
  size : Nat
  bytes : Nat
  zero : Value
  cmp : Cmp

def kindT : Option TypeDesc → Option Nat
  | some (.int _) => some 0
  | some .bool => some 1
  | some .string => some 2
  | _ => none

def fieldsOk (P : Program) : Nat → List Field → List Nat → Bool
  | _, [], [] => true
  | i, f :: r, k :: ks => f.name != "_" && (f.offset == i && (kindT (P.underlying f.type) == some k && fieldsOk P (i + 1) r ks))
  | _, _, _ => false

def cmpOk (P : Program) (t : TypeId) : Cmp → Bool
  | .no => true
  | .ptr => (match P.underlying t with | some (.pointer _) => true | _ => false)
  | .ar n k => (match P.underlying t with | some (.array m e) => m == n && (!P.eqGuardType P.depth t && (P.cellsOf e == 1 && ((P.info? e).isSome && kindT (P.underlying e) == some k))) | _ => false)
  | .bool => (match P.underlying t with | some .bool => true | _ => false)
  | .st ks => (match P.underlying t with | some (.struct F) => !P.stoodInHeld t && (!P.eqGuardType P.depth t && fieldsOk P 0 F.toList ks) | _ => false)

abbrev Tab := List (TypeId × TE)

def tget : Tab → TypeId → Option TE
  | [], _ => none
  | (t', x) :: r, t => if t' = t then some x else tget r t

structure TE.ok (P : Program) (t : TypeId) (x : TE) : Prop where
  und : (P.underlying t).map TD.of = some x.td
  info : (P.info? t).map (fun i => (i.size, i.bytes, i.zero)) = some (x.size, x.bytes, some x.zero)
  zsize : x.zero.cells.size = x.size
  cmp : cmpOk P t x.cmp = true

def TabOk (P : Program) (T : Tab) : Prop := ∀ t x, tget T t = some x → x.ok P t

theorem TabOk.nil (P : Program) : TabOk P [] := fun t x h => by simp [tget] at h
theorem TabOk.cons {P : Program} {T : Tab} {t : TypeId} {x : TE} (h : x.ok P t) (hT : TabOk P T) : TabOk P ((t, x) :: T) := fun u y e => by
  simp only [tget] at e
  split at e
  · rename_i h'; subst h'; injection e with e; subst e; exact h
  · exact hT u y e

theorem TE.ok.get {P : Program} {t : TypeId} {x : TE} (h : x.ok P t) : ∃ d i, P.underlying t = some d ∧ TD.of d = x.td ∧ P.info? t = some i ∧ i.size = x.size ∧ i.bytes = x.bytes ∧ i.zero = some x.zero := by
  obtain ⟨h1, h2, _, _⟩ := h
  cases hd : P.underlying t with
  | none => simp [hd] at h1
  | some d =>
    cases hi : P.info? t with
    | none => simp [hi] at h2
    | some i =>
      simp [hd] at h1
      simp [hi] at h2
      exact ⟨d, i, rfl, h1, rfl, h2.1, h2.2.1, h2.2.2⟩

section
variable {P : Program} {t : TypeId} {x : TE}
theorem run_isAgg (h : x.ok P t) (w : World) : (isAgg t).run P w = .ok x.td.agg w := by
  obtain ⟨d, i, h1, h2, _⟩ := h.get
  unfold isAgg
  rw [Sem.run_bind, run_underlying h1 w]
  rw [← h2]
  cases d <;> simp [TD.of, TD.agg]
theorem run_sizeOf' (h : x.ok P t) (w : World) : (sizeOf t).run P w = .ok x.size w := by
  obtain ⟨d, i, h1, h2, h3, h4, _⟩ := h.get
  simp [sizeOf, typeInfo, h3, h4]
theorem run_zero (h : x.ok P t) (w : World) : (zeroValue t).run P w = .ok x.zero w := by
  obtain ⟨d, i, h1, h2, h3, h4, h5, h6⟩ := h.get
  simp [zeroValue, typeInfo, h3, h6]
theorem run_loadVar_one (h : x.ok P t) (ha : x.td.agg = false) {w : World} {a : Addr} {c : Value} (hc : w.cell? a = some c) : (loadVar t a).run P w = .ok c w := by
  unfold loadVar
  rw [Sem.run_bind, run_isAgg h w, ha]
  simp [hc]
theorem run_loadVar_agg (h : x.ok P t) (ha : x.td.agg = true) {w : World} {a : Addr} {cs : List Value} (hl : cs.length = x.size) (hc : ∀ j v, cs[j]? = some v → w.cell? (a.add j) = some v) :
    (loadVar t a).run P w = .ok (.agg cs.toArray) w := by
  unfold loadVar
  rw [Sem.run_bind, run_isAgg h w, ha]
  have := run_loadCells_list (P := P) w a cs hc
  rw [hl] at this
  simp [run_sizeOf' h, this]
end

def AV.strip : AV → AV
  | .gd _ a => a
  | a => a

/-- under the guard g the operand may be used -/
def gcond (g : Bool) : AV → Prop
  | .gd h _ => g = true → h = true
  | _ => True

/-- what a step asks: nothing, or something -/
inductive Sd where
  | t
  | p (q : Prop)

def Sd.ok : Sd → Prop
  | .t => True
  | .p q => q

def Sd.and : Sd → Prop → Prop
  | .t, k => k
  | .p q, k => q ∧ k

def Sd.andG (g : Bool) : Sd → Prop → Prop
  | .t, k => k
  | .p q, k => (g = true → q) ∧ k

theorem Sd.and_spec {s : Sd} {k : Prop} (h : s.and k) : s.ok ∧ k := by
  cases s with
  | t => exact ⟨trivial, h⟩
  | p q => exact h
theorem Sd.andG_spec {g : Bool} {s : Sd} {k : Prop} (h : s.andG g k) : (g = true → s.ok) ∧ k := by
  cases s with
  | t => exact ⟨fun _ => trivial, h⟩
  | p q => exact h

/-- a test on literals -/
def sdLt (a b : Nat) : Sd := match Nat.blt a b with | true => .t | false => .p (a < b)
def sdLe (a b : Nat) : Sd := match Nat.ble a b with | true => .t | false => .p (a ≤ b)
theorem sdLt_spec {a b : Nat} (h : (sdLt a b).ok) : a < b := by
  unfold sdLt at h
  split at h
  · rename_i e; simpa [Nat.blt_eq] using e
  · exact h
theorem sdLe_spec {a b : Nat} (h : (sdLe a b).ok) : a ≤ b := by
  unfold sdLe at h
  split at h
  · rename_i e; exact Nat.le_of_ble_eq_true e
  · exact h

abbrev PV := Option (Sd × AV)

def intV (n : Int) : AV := .c (.v (.int .i64 n))
def boolV (b : Bool) : AV := .c (.v (.bool b))
def strV (s : ByteArray) : AV := .c (.v (.string s))

def binS (op : BinOp) : Value → Value → Sd
  | .int k _, .int k' b => match op with
    | .shl | .shr => .p (0 ≤ b)
    | op => if k = k' then match op with
      | .add | .sub | .mul | .eql | .neq | .lss | .leq | .gtr | .geq | .and | .or | .xor | .andNot => .t
      | .quo | .rem => .p (b ≠ 0)
      | _ => .p False else .p False
  | .string a, .string b => match op with
    | .add => .p (a.size + b.size ≤ maxLen)
    | .eql | .neq | .lss | .leq | .gtr | .geq => .t
    | _ => .p False
  | _, _ => .p False

/-- bits -/
def andI (k : IntKind) (x y : Int) : Int := k.wrap ((BitVec.ofInt k.bits x &&& BitVec.ofInt k.bits y).toNat : Nat)
def orI (k : IntKind) (x y : Int) : Int := k.wrap ((BitVec.ofInt k.bits x ||| BitVec.ofInt k.bits y).toNat : Nat)
def xorI (k : IntKind) (x y : Int) : Int := k.wrap ((BitVec.ofInt k.bits x ^^^ BitVec.ofInt k.bits y).toNat : Nat)
def anI (k : IntKind) (x y : Int) : Int := k.wrap ((BitVec.ofInt k.bits x &&& ~~~BitVec.ofInt k.bits y).toNat : Nat)
def shlI (k : IntKind) (x y : Int) : Int := k.wrap (x * 2 ^ min y.toNat k.bits)
def shrI (k : IntKind) (x y : Int) : Int := x.fdiv (2 ^ min y.toNat k.bits)

def binV (op : BinOp) : Value → Value → Value
  | .int k a, .int _ b => match op with
    | .add => .int k (k.wrap (a + b))
    | .sub => .int k (k.wrap (a - b))
    | .mul => .int k (k.wrap (a * b))
    | .quo => .int k (k.wrap (a.tdiv b))
    | .rem => .int k (a.tmod b)
    | .eql => .bool (a == b)
    | .neq => .bool (a != b)
    | .lss => .bool (decide (a < b))
    | .leq => .bool (decide (a ≤ b))
    | .gtr => .bool (decide (a > b))
    | .geq => .bool (decide (a ≥ b))
    | .and => .int k (andI k a b)
    | .or => .int k (orI k a b)
    | .xor => .int k (xorI k a b)
    | .andNot => .int k (anI k a b)
    | .shl => .int k (shlI k a b)
    | .shr => .int k (shrI k a b)
  | .string a, .string b => match op with
    | .add => .string (a ++ b)
    | .eql => .bool (a.toList == b.toList)
    | .neq => .bool (!(a.toList == b.toList))
    | .lss => .bool (Op.bytesLess a.toList b.toList)
    | .leq => .bool (Op.bytesLess a.toList b.toList || a.toList == b.toList)
    | .gtr => .bool (!(Op.bytesLess a.toList b.toList || a.toList == b.toList))
    | .geq => .bool (!Op.bytesLess a.toList b.toList)
    | _ => undef
  | _, _ => undef

theorem run_binS {P : Program} {op : BinOp} {a b : Value} (h : (binS op a b).ok) (t : TypeId) (x y : Operand) (w : World) :
    (do eqGuard op t x y a b; binOp op t a b).run P w = .ok (binV op a b) w ∧ (binV op a b).oneCell' = true := by
  cases a <;> cases b <;> try exact (show False from h).elim
  case int.int k a k' b =>
    by_cases hsh : op = .shl ∨ op = .shr
    · rcases hsh with rfl | rfl
      all_goals
        simp only [binS, Sd.ok] at h
        have hb : ¬ b < 0 := by omega
        simp [eqGuard, binOp, Op.shift, hb, binV, Value.oneCell', shlI, shrI]
    · have hS : binS op (.int k a) (.int k' b) = if k = k' then match op with
          | .add | .sub | .mul | .eql | .neq | .lss | .leq | .gtr | .geq | .and | .or | .xor | .andNot => .t
          | .quo | .rem => .p (b ≠ 0)
          | _ => .p False else .p False := by
        cases op <;> first | rfl | (exfalso; simp at hsh)
      rw [hS] at h
      by_cases hk : k = k'
      · subst hk
        rw [if_pos rfl] at h
        cases op <;> try exact (show False from h).elim
        all_goals simp only [Sd.ok] at h
        all_goals first
          | (simp [eqGuard, binOp, Op.intArith, Op.intCmp, binV, Value.oneCell']; done)
          | (simp [eqGuard, binOp, Op.intBits, binV, Value.oneCell', andI, orI, xorI, anI]; done)
          | (simp [eqGuard, binOp, Op.intDiv, h, binV, Value.oneCell']; done)
      · rw [if_neg hk] at h
        exact (show False from h).elim
  case string.string a b =>
    simp only [binS] at h
    cases op <;> try exact (show False from h).elim
    all_goals simp only [Sd.ok] at h
    all_goals first
      | (simp [eqGuard, binOp, Op.stringOp, binV, Value.oneCell']; done)
      | (have h' : ¬ (((a.size + b.size : Nat) : Int) > IntKind.i64.max) := by
           simp only [maxLen] at h
           rw [show IntKind.i64.max = 9223372036854775807 from by decide]
           omega
         simp only [eqGuard, binOp, Op.stringOp, binV, Value.oneCell', h']
         simp)

/-- cells that are compared one by one -/
def cellEq : Nat → Value → Value → Option Bool
  | 0, .int k a, .int k' b => if k = k' then some (a == b) else none
  | 1, .bool a, .bool b => some (a == b)
  | 2, .string a, .string b => some (a.toList == b.toList)
  | _, _, _ => none

def eqVals : List Nat → List Value → List Value → Option Bool
  | [], [], [] => some true
  | k :: ks, a :: r, b :: s => match cellEq k a b, eqVals ks r s with
    | some x, some y => some (x && y)
    | _, _ => none
  | _, _, _ => none

section
variable {P : Program}
theorem run_part_one {t : TypeId} {cs : Array Value} {i k : Nat} {v : Value} (hs : kindT (P.underlying t) = some k) (hv : cs[i]? = some v) (w : World) : (part t cs i).run P w = .ok v w := by
  cases hu : P.underlying t with
  | none => rw [hu] at hs; cases hs
  | some d =>
    rw [hu] at hs
    have hagg : (isAgg t).run P w = .ok false w := by
      unfold isAgg
      rw [Sem.run_bind, run_underlying hu w]
      cases d <;> simp_all [kindT]
    unfold part
    rw [Sem.run_bind, hagg]
    simp [hv]

theorem run_eqCell {d k : Nat} {t : TypeId} {a b : Value} {r : Bool} (hs : kindT (P.underlying t) = some k) (h : cellEq k a b = some r) (w : World) : (Op.equalIn (d + 1) t a b).run P w = .ok r w := by
  unfold cellEq at h
  split at h
  · rename_i kk x k' y
    split at h
    · rename_i hkk
      subst hkk
      injection h with h; subst h
      have : ∃ k2, P.underlying t = some (.int k2) := by
        revert hs
        cases P.underlying t with
        | none => intro hs; cases hs
        | some d => cases d <;> simp [kindT]
      obtain ⟨k2, hk2⟩ := this
      exact run_equalIn_int w d t kk k2 x y hk2
    · cases h
  · injection h with h; subst h
    refine run_equalIn_bool' w d t _ _ ?_
    revert hs
    cases P.underlying t with
    | none => intro hs; cases hs
    | some d => cases d <;> simp [kindT]
  · injection h with h; subst h
    refine run_equalIn_string w d t _ _ ?_
    revert hs
    cases P.underlying t with
    | none => intro hs; cases hs
    | some d => cases d <;> simp [kindT]
  · cases h

theorem run_eqFields {d : Nat} {xs ys : Array Value} (w : World) : ∀ (fs : List Field) (ks : List Nat) (i : Nat) (us vs : List Value) (r : Bool), fieldsOk P i fs ks = true → xs.toList.drop i = us → ys.toList.drop i = vs → eqVals ks us vs = some r → (Op.eqFields (d + 1) xs ys fs).run P w = .ok r w
  | [], [], i, us, vs, r, _, _, _, h => by
    cases us with
    | nil =>
      cases vs with
      | nil => simp only [eqVals] at h; injection h with h; subst h; simp [Op.eqFields]
      | cons b vs => simp [eqVals] at h
    | cons a us => simp [eqVals] at h
  | [], k :: ks, i, us, vs, r, hf, _, _, _ => by simp [fieldsOk] at hf
  | f :: fs, [], i, us, vs, r, hf, _, _, _ => by simp [fieldsOk] at hf
  | f :: fs, k :: ks, i, us, vs, r, hf, hu, hv, h => by
    simp only [fieldsOk, Bool.and_eq_true, bne_iff_ne, beq_iff_eq] at hf
    obtain ⟨h1, h2, h3, h4⟩ := hf
    cases us with
    | nil => simp [eqVals] at h
    | cons a us =>
      cases vs with
      | nil => simp [eqVals] at h
      | cons b vs =>
        simp only [eqVals] at h
        split at h
        · rename_i x y hx hy
          injection h with h; subst h
          have ga : xs[f.offset]? = some a := by
            rw [h2, ← Array.getElem?_toList]
            have := congrArg (·[0]?) hu
            simpa using this
          have gb : ys[f.offset]? = some b := by
            rw [h2, ← Array.getElem?_toList]
            have := congrArg (·[0]?) hv
            simpa using this
          have ih := run_eqFields (d := d) (xs := xs) (ys := ys) w fs ks (i + 1) us vs y h4 (by rw [← List.drop_drop, hu]; rfl) (by rw [← List.drop_drop, hv]; rfl) hy
          simp only [Op.eqFields]
          rw [if_pos h1, Sem.run_bind, run_part_one h3 ga w]
          simp only [Result.andThen_ok]
          rw [Sem.run_bind, run_part_one h3 gb w]
          simp only [Result.andThen_ok]
          rw [Sem.run_bind, run_eqCell h3 hx w]
          simp only [Result.andThen_ok]
          cases x
          · simp
          · simpa using ih
        · cases h

theorem run_eqStruct {t : TypeId} {ks : List Nat} (hc : cmpOk P t (.st ks) = true) {xs ys : Array Value} {r : Bool} (h : eqVals ks xs.toList ys.toList = some r) (x y : Operand) (w : World) :
    (do eqGuard .eql t x y (.agg xs) (.agg ys); binOp .eql t (.agg xs) (.agg ys)).run P w = .ok (.bool r) w ∧ (do eqGuard .neq t x y (.agg xs) (.agg ys); binOp .neq t (.agg xs) (.agg ys)).run P w = .ok (.bool (!r)) w := by
  simp only [cmpOk] at hc
  split at hc
  · rename_i F hF
    simp only [Bool.and_eq_true, Bool.not_eq_true'] at hc
    obtain ⟨h1, h2, h3⟩ := hc
    have hfo : P.fieldsOf t = F := by simp [Program.fieldsOf, hF]
    have he : (Op.equalIn 10000 t (.agg xs) (.agg ys)).run P w = .ok r w := by
      rw [show (10000 : Nat) = 9999 + 1 from rfl, run_equalIn_agg w 9999 t xs ys (by rw [hfo]; exact hF) h1, hfo]
      exact run_eqFields (d := 9998) w F.toList ks 0 _ _ r h3 rfl rfl h
    constructor
    · rw [Sem.run_bind, run_eqGuard_agg w .eql t x y xs ys h2]
      simp only [Result.andThen_ok]
      rw [run_eql_struct, he]
      rfl
    · rw [Sem.run_bind, run_eqGuard_agg w .neq t x y xs ys h2]
      simp only [Result.andThen_ok]
      rw [run_neq_struct, he]
      rfl
  · cases hc

theorem run_eqItems1 {d k c : Nat} {e : TypeId} (hk : kindT (P.underlying e) = some k) (hc : c = 1) {xs ys : Array Value} (w : World) : ∀ (n i : Nat) (us vs : List Value) (r : Bool), xs.toList.drop i = us → ys.toList.drop i = vs → eqVals (List.replicate n k) us vs = some r →
    (Op.eqItems (d + 1) e c xs ys (List.range' i n)).run P w = .ok r w
  | 0, i, us, vs, r, _, _, h => by
    cases us with
    | nil =>
      cases vs with
      | nil => simp only [List.replicate, eqVals] at h; injection h with h; subst h; simp [Op.eqItems]
      | cons b vs => simp [eqVals] at h
    | cons a us => simp [eqVals] at h
  | n + 1, i, us, vs, r, hu, hv, h => by
    subst hc
    simp only [List.replicate] at h
    cases us with
    | nil => simp [eqVals] at h
    | cons a us =>
      cases vs with
      | nil => simp [eqVals] at h
      | cons b vs =>
        simp only [eqVals] at h
        split at h
        · rename_i x y hx hy
          injection h with h; subst h
          have ga : xs[i * 1]? = some a := by
            rw [Nat.mul_one, ← Array.getElem?_toList]
            have := congrArg (·[0]?) hu
            simpa using this
          have gb : ys[i * 1]? = some b := by
            rw [Nat.mul_one, ← Array.getElem?_toList]
            have := congrArg (·[0]?) hv
            simpa using this
          have ih := run_eqItems1 (d := d) hk rfl (xs := xs) (ys := ys) w n (i + 1) us vs y (by rw [← List.drop_drop, hu]; rfl) (by rw [← List.drop_drop, hv]; rfl) hy
          simp only [List.range'_succ, Op.eqItems]
          rw [Sem.run_bind, run_part_one hk ga w]
          simp only [Result.andThen_ok]
          rw [Sem.run_bind, run_part_one hk gb w]
          simp only [Result.andThen_ok]
          rw [Sem.run_bind, run_eqCell hk hx w]
          simp only [Result.andThen_ok]
          cases x
          · simp
          · simpa using ih
        · cases h

theorem run_eqArr {t : TypeId} {n k : Nat} (hc : cmpOk P t (.ar n k) = true) {xs ys : Array Value} {r : Bool} (h : eqVals (List.replicate n k) xs.toList ys.toList = some r) (x y : Operand) (w : World) :
    (do eqGuard .eql t x y (.agg xs) (.agg ys); binOp .eql t (.agg xs) (.agg ys)).run P w = .ok (.bool r) w ∧ (do eqGuard .neq t x y (.agg xs) (.agg ys); binOp .neq t (.agg xs) (.agg ys)).run P w = .ok (.bool (!r)) w := by
  simp only [cmpOk] at hc
  split at hc
  · rename_i m e hF
    simp only [Bool.and_eq_true, Bool.not_eq_true', beq_iff_eq] at hc
    obtain ⟨rfl, h2, h3, h4, h5⟩ := hc
    obtain ⟨i, hi⟩ := Option.isSome_iff_exists.1 h4
    have he : (Op.equalIn 10000 t (.agg xs) (.agg ys)).run P w = .ok r w := by
      rw [show (10000 : Nat) = 9999 + 1 from rfl, run_equalIn_array w 9999 xs ys hF hi, List.range_eq_range']
      exact run_eqItems1 (d := 9998) h5 h3 w m 0 _ _ r rfl rfl h
    constructor
    · rw [Sem.run_bind, run_eqGuard_agg w .eql t x y xs ys h2]
      simp only [Result.andThen_ok]
      rw [run_eql_struct, he]
      rfl
    · rw [Sem.run_bind, run_eqGuard_agg w .neq t x y xs ys h2]
      simp only [Result.andThen_ok]
      rw [run_neq_struct, he]
      rfl
  · cases hc

theorem run_eqPtr {t : TypeId} (hc : cmpOk P t .ptr = true) (p : Option Addr) (x y : Operand) (w : World) :
    (do eqGuard .eql t x y (.pointer p) (.pointer none); binOp .eql t (.pointer p) (.pointer none)).run P w = .ok (.bool p.isNone) w ∧ (do eqGuard .neq t x y (.pointer p) (.pointer none); binOp .neq t (.pointer p) (.pointer none)).run P w = .ok (.bool (!p.isNone)) w := by
  have hb : P.underlying t = some (.pointer (P.pointee t)) := by
    simp only [cmpOk] at hc
    split at hc
    · rename_i e h; simp [Program.pointee, h]
    · cases hc
  constructor
  · simp [eqGuard, run_eql_pointer_nil w t p hb]
  · simp [eqGuard, run_neq_pointer_nil w t p hb]

theorem run_eqBool {t : TypeId} (hc : cmpOk P t .bool = true) (a b : Bool) (x y : Operand) (w : World) :
    (do eqGuard .eql t x y (.bool a) (.bool b); binOp .eql t (.bool a) (.bool b)).run P w = .ok (.bool (a == b)) w ∧ (do eqGuard .neq t x y (.bool a) (.bool b); binOp .neq t (.bool a) (.bool b)).run P w = .ok (.bool (a != b)) w := by
  have hb : P.underlying t = some .bool := by
    simp only [cmpOk] at hc
    split at hc
    · assumption
    · cases hc
  have he := run_equal_bool (P := P) w t a b hb
  constructor
  · simp [eqGuard, binOp, he]
  · simp [eqGuard, binOp, he, bne]
end

def toCs : List AV → Option (List Value)
  | [] => some []
  | .c (.v x) :: r => (toCs r).map (x :: ·)
  | _ => none

def aggL : List L → List AV := List.map .c

def loadP (T : Tab) (obs : List OB) (t : TypeId) : AV → PV
  | .xp n f => match tget T t with
    | some x => match x.td.agg with
      | true => some (sdLe x.size n, .agg ((List.range x.size).map fun j => .c (f j)))
      | false => some (sdLt 0 n, .c (f 0))
    | none => none
  | .lp i off => match tget T t, obs[i]? with
    | some x, some (.box cs) => match x.td.agg with
      | true => some (sdLe (off + x.size) cs.length, .agg ((cs.drop off).take x.size))
      | false => some (sdLt off cs.length, (cs[off]?).getD .top)
    | some x, some (.arr sz n _ f) => match x.td.agg with
      | true => some (.p (off = 0 ∧ sz = 1 ∧ x.size = n), .av n fun k => f k 0)
      | false => none
    | _, _ => none
  | .rp i sz k j => match tget T t, obs[i]? with
    | some x, some (.row _ sz' n _ f) => match x.td.agg with
      | true => some (.p (sz' = sz ∧ k < n ∧ j + x.size ≤ sz), .agg ((List.range x.size).map fun m => .c (f k (j + m))))
      | false => some (.p (sz' = sz ∧ k < n ∧ j < sz), .c (f k j))
    | some x, some (.arr sz' n _ f) => match x.td.agg with
      | true => some (.p (sz' = sz ∧ k < n ∧ j + x.size ≤ sz), .agg ((List.range x.size).map fun m => .c (f k (j + m))))
      | false => some (.p (sz' = sz ∧ k < n ∧ j < sz), .c (f k j))
    | some x, some (.grid _ n m _) => match x.td.agg with
      | true => none
      | false => some (.p (sz = 1 ∧ k < n ∧ j = 0), .gr i k m)
    | _, _ => none
  | .gp i k j => match tget T t, obs[i]? with
    | some x, some (.grid _ n m f) => match x.td.agg with
      | true => none
      | false => some (.p (k < n ∧ j < m), .c (.v (f k j)))
    | _, _ => none
  | _ => none

section
variable {P : Program} {T : Tab} {σ : Asg} {I : Nat → Prop} {w : World} {B : Nat → Prop} {obs : List OB}

theorem DenL.map_c {fs : List L} : ∀ {us : List Value}, (∀ (j : Nat) (l : L), fs[j]? = some l → ∃ u, us[j]? = some u ∧ l.rd w I u) → us.length = fs.length → DenL σ I w (fs.map AV.c) us := by
  induction fs with
  | nil => intro us _ hl; simp at hl; subst hl; simp [DenL]
  | cons l fs ih =>
    intro us h hl
    match us, hl with
    | u :: us, hl =>
      simp only [List.map, DenL]
      obtain ⟨u', e, hr⟩ := h 0 l rfl
      simp at e; subst e
      exact ⟨_, _, rfl, by simpa only [Den] using hr, ih (fun j l e => by simpa using h (j + 1) l (by simpa using e)) (by simpa using hl)⟩

theorem cells_of {n : Nat} {f : Nat → L} {a : Addr} (h : ∀ j, j < n → ∃ c, w.cell? (a.add j) = some c ∧ (f j).rd w I c) :
    ∃ us : List Value, us.length = n ∧ (∀ j v, us[j]? = some v → w.cell? (a.add j) = some v ∧ (f j).rd w I v) := by
  induction n with
  | zero => exact ⟨[], rfl, fun j v e => by simp at e⟩
  | succ n ih =>
    obtain ⟨us, hl, hu⟩ := ih fun j hj => h j (by omega)
    obtain ⟨c, h1, h2⟩ := h n (by omega)
    refine ⟨us ++ [c], by simp [hl], fun j v e => ?_⟩
    by_cases hj : j < us.length
    · rw [List.getElem?_append_left hj] at e
      exact hu j v e
    · rw [List.getElem?_append_right (by omega)] at e
      have : j - us.length = 0 := by
        rcases Nat.eq_zero_or_pos (j - us.length) with h0 | h0
        · exact h0
        · rw [List.getElem?_eq_none (by simp; omega)] at e; cases e
      rw [this] at e
      simp at e
      subst e
      have : j = n := by omega
      subst this
      exact ⟨h1, h2⟩

theorem DenL.of_cells {n : Nat} {f : Nat → L} {us : List Value} (hl : us.length = n) (h : ∀ (j : Nat) (v : Value), us[j]? = some v → (f j).rd w I v) : DenL σ I w ((List.range n).map fun j => .c (f j)) us := by
  have : ((List.range n).map fun j => AV.c (f j)) = ((List.range n).map f).map AV.c := by simp
  rw [this]
  refine DenL.map_c (fun j l e => ?_) (by simp [hl])
  have hj : j < n := by
    rcases Nat.lt_or_ge j n with h | h
    · exact h
    · rw [List.getElem?_eq_none (by simp; omega)] at e; cases e
  have e' : f j = l := by simpa [hj] using e
  subst e'
  exact ⟨us[j], List.getElem?_eq_getElem (by omega), h j _ (List.getElem?_eq_getElem (by omega))⟩

theorem DenL.drop : ∀ {as : List AV} {us : List Value} (n : Nat), DenL σ I w as us → DenL σ I w (as.drop n) (us.drop n)
  | as, us, 0, h => by simpa using h
  | [], us, n + 1, h => by simp only [DenL] at h; subst h; simp [DenL]
  | a :: as, us, n + 1, h => by
    simp only [DenL] at h
    obtain ⟨u, us', rfl, h1, h2⟩ := h
    simpa using DenL.drop n h2
theorem DenL.take : ∀ {as : List AV} {us : List Value} (n : Nat), DenL σ I w as us → DenL σ I w (as.take n) (us.take n)
  | as, us, 0, h => by simp [DenL]
  | [], us, n + 1, h => by simp only [DenL] at h; subst h; simp [DenL]
  | a :: as, us, n + 1, h => by
    simp only [DenL] at h
    obtain ⟨u, us', rfl, h1, h2⟩ := h
    simp only [List.take, DenL]
    exact ⟨u, us'.take n, rfl, h1, DenL.take n h2⟩

theorem cell_at {b : Nat} {us : Array Value} {ty : TypeId} {fr : Nat × Nat} {w' : World} (hb : w'.heap[b]? = some (.cells us ty fr)) (j : Nat) : w'.cell? ⟨b, j, none⟩ = us[j]? := cell_of_row w' b j us ty fr hb

theorem loadP_sound (hT : TabOk P T) (hS : Store σ I w B obs) {t : TypeId} {a r : AV} {s : Sd} {ua : Value} (ha : Den σ I w a ua) (h : loadP T obs t a = some (s, r)) (hs : s.ok) :
    ∃ u, (∀ w', Same w w' → (Instr.loadAt t ua).run P w' = .ok u w') ∧ Den σ I w r u := by
  cases a with
  | xp n f =>
    simp only [loadP] at h
    cases hx : tget T t with
    | none => simp [hx] at h
    | some x =>
      have hok := hT t x hx
      simp only [hx] at h
      simp only [Den] at ha
      obtain ⟨a, rfl, hb, hc⟩ := ha
      split at h
      · rename_i hagg
        injection h with h; injection h with h1 h2
        subst h1 h2
        have hs := sdLe_spec hs
        obtain ⟨us, hl, hu⟩ := cells_of (n := x.size) (f := f) (a := a) fun j hj => hc j (by omega)
        refine ⟨.agg us.toArray, fun w' hw => ?_, ?_⟩
        · simp only [Instr.loadAt, Instr.sureAddr, Sem.run_bind, Sem.run_pure, Result.andThen_ok]
          refine run_loadVar_agg hok hagg hl fun j v e => ?_
          rw [cell_keep (w := w) (by rw [add_block]; exact hw.block _ (hS.imm _ hb))]
          exact (hu j v e).1
        · simp only [Den]
          exact ⟨us, rfl, DenL.of_cells hl fun j v e => (hu j v e).2, fun v hv => by
            obtain ⟨j, hj⟩ := List.mem_iff_getElem?.1 hv
            exact L.rd_one (hu j v hj).2⟩
      · rename_i hagg
        injection h with h; injection h with h1 h2
        subst h1 h2
        have hs := sdLt_spec hs
        obtain ⟨c, e1, e2⟩ := hc 0 hs
        refine ⟨c, fun w' hw => ?_, by simpa only [Den] using e2⟩
        simp only [Instr.loadAt, Instr.sureAddr, Sem.run_bind, Sem.run_pure, Result.andThen_ok]
        refine run_loadVar_one hok (by simpa using hagg) ?_
        rw [cell_keep (w := w) (hw.block _ (hS.imm _ hb))]
        exact e1
  | lp i off =>
    simp only [loadP] at h
    cases hx : tget T t with
    | none => simp [hx] at h
    | some x =>
      have hok := hT t x hx
      simp only [hx] at h
      cases ho : obs[i]? with
      | none => simp [ho] at h
      | some o =>
        cases o with
        | dead => simp [ho] at h
        | row e sz n sc f => simp [ho] at h
        | arr sz n sc f =>
          simp only [ho] at h
          split at h
          · rename_i hagg
            injection h with h; injection h with h1 h2
            subst h1 h2
            simp only [Sd.ok] at hs
            obtain ⟨rfl, rfl, hxn⟩ := hs
            simp only [Den] at ha
            obtain ⟨hi, b, hb, rfl⟩ := ha
            obtain ⟨⟨b', xs, ty, hb', hh, hl, h1c, hc⟩, _⟩ := hS.obj i _ ho
            rw [hb] at hb'; injection hb' with hb'; subst hb'
            have hlt := (hS.fresh i _ b ho rfl hb).2.2
            refine ⟨.agg xs.toArray, fun w' hw => ?_, ?_⟩
            · simp only [Instr.loadAt, Instr.sureAddr, Sem.run_bind, Sem.run_pure, Result.andThen_ok]
              refine run_loadVar_agg hok hagg (by omega) fun j v e => ?_
              rw [add_lit, Nat.zero_add, cell_keep (w := w) (hw.block _ hlt), cell_at hh]
              simpa using e
            · simp only [Den]
              exact ⟨xs, rfl, by omega, fun j hj => by
                obtain ⟨c, e1, e2⟩ := hc j hj 0 (by omega)
                exact ⟨c, by simpa using e1, e2⟩⟩
          · cases h
        | keys ks => simp [ho] at h
        | bld => simp [ho] at h
        | grid e n m f => simp [ho] at h
        | box cs =>
          simp only [ho] at h
          simp only [Den] at ha
          obtain ⟨hi, b, hb, rfl⟩ := ha
          obtain ⟨b', us, ty, hb', hh, hd, h1c⟩ := hS.obj i _ ho
          rw [hb] at hb'; injection hb' with hb'; subst hb'
          have hlt := (hS.fresh i _ b ho rfl hb).2.2
          split at h
          · rename_i hagg
            injection h with h; injection h with h1 h2
            subst h1 h2
            have hs := sdLe_spec hs
            have hlen := hd.len
            refine ⟨.agg ((us.drop off).take x.size).toArray, fun w' hw => ?_, ?_⟩
            · simp only [Instr.loadAt, Instr.sureAddr, Sem.run_bind, Sem.run_pure, Result.andThen_ok]
              refine run_loadVar_agg hok hagg (by simp; omega) fun j v e => ?_
              rw [add_lit, cell_at (hw.block b hlt |>.trans hh)]
              rw [List.getElem?_take] at e
              split at e
              · rw [List.getElem?_drop] at e; simpa using e
              · cases e
            · simp only [Den]
              exact ⟨_, rfl, (hd.drop off).take x.size, fun v hv => h1c v (List.mem_of_mem_drop (List.mem_of_mem_take hv))⟩
          · rename_i hagg
            injection h with h; injection h with h1 h2
            subst h1 h2
            have hs := sdLt_spec hs
            obtain ⟨u, e1, e2⟩ := hd.get off cs[off] (List.getElem?_eq_getElem hs)
            refine ⟨u, fun w' hw => ?_, by rw [List.getElem?_eq_getElem hs]; exact e2⟩
            simp only [Instr.loadAt, Instr.sureAddr, Sem.run_bind, Sem.run_pure, Result.andThen_ok]
            refine run_loadVar_one hok (by simpa using hagg) ?_
            rw [cell_at (hw.block b hlt |>.trans hh)]
            simpa using e1
  | rp i sz k j =>
    simp only [loadP] at h
    cases hx : tget T t with
    | none => simp [hx] at h
    | some x =>
      have hok := hT t x hx
      simp only [hx] at h
      simp only [Den] at ha
      obtain ⟨hi, b, hb, rfl⟩ := ha
      have key : ∀ {n : Nat} {f : Nat → Nat → L} {xs : List Value} {o : OB}, obs[i]? = some o → o.live = true → k < n → (∀ k, k < n → ∀ j, j < sz → ∃ c, xs[k * sz + j]? = some c ∧ (f k j).rd w I c) → (∀ m v, xs[m]? = some v → w.cell? ⟨b, m, none⟩ = some v) →
          (match x.td.agg with
            | true => some (Sd.p (sz = sz ∧ k < n ∧ j + x.size ≤ sz), AV.agg ((List.range x.size).map fun m => .c (f k (j + m))))
            | false => some (Sd.p (sz = sz ∧ k < n ∧ j < sz), AV.c (f k j))) = some (s, r) →
          ∃ u, (∀ w', Same w w' → (Instr.loadAt t (.pointer (some ⟨b, k * sz + j, none⟩))).run P w' = .ok u w') ∧ Den σ I w r u := by
        intro n f xs o ho hl hk hcs hcell0 h
        have hlt := (hS.fresh i _ b ho hl hb).2.2
        have hcell : ∀ m v, xs[m]? = some v → ∀ w', Same w w' → w'.cell? ⟨b, m, none⟩ = some v := fun m v e w' hw => by
          rw [cell_keep (w := w) (hw.block b hlt)]
          exact hcell0 m v e
        split at h
        · rename_i hagg
          injection h with h; injection h with h1 h2
          subst h1 h2
          obtain ⟨_, hk, hj⟩ := hs
          obtain ⟨us, hl, hu⟩ := cells_of (w := w) (I := I) (n := x.size) (f := fun m => f k (j + m)) (a := ⟨b, k * sz + j, none⟩) fun m hm => by
            obtain ⟨c, e1, e2⟩ := hcs k hk (j + m) (by omega)
            exact ⟨c, by rw [add_lit, Nat.add_assoc]; exact hcell _ _ e1 w (Same.refl w), e2⟩
          refine ⟨.agg us.toArray, fun w' hw => ?_, ?_⟩
          · simp only [Instr.loadAt, Instr.sureAddr, Sem.run_bind, Sem.run_pure, Result.andThen_ok]
            refine run_loadVar_agg hok hagg hl fun m v e => ?_
            rw [cell_keep (w := w) (by rw [add_block]; exact hw.block _ hlt)]
            exact (hu m v e).1
          · simp only [Den]
            exact ⟨us, rfl, DenL.of_cells hl fun m v e => (hu m v e).2, fun v hv => by
              obtain ⟨m, hm⟩ := List.mem_iff_getElem?.1 hv
              exact L.rd_one (hu m v hm).2⟩
        · rename_i hagg
          injection h with h; injection h with h1 h2
          subst h1 h2
          obtain ⟨_, hk, hj⟩ := hs
          obtain ⟨c, e1, e2⟩ := hcs k hk j hj
          refine ⟨c, fun w' hw => ?_, by simpa only [Den] using e2⟩
          simp only [Instr.loadAt, Instr.sureAddr, Sem.run_bind, Sem.run_pure, Result.andThen_ok]
          exact run_loadVar_one hok (by simpa using hagg) (hcell _ _ e1 w' hw)
      cases ho : obs[i]? with
      | none => simp [ho] at h
      | some o =>
        cases o with
        | dead => simp [ho] at h
        | box cs => simp [ho] at h
        | keys ks => simp [ho] at h
        | bld => simp [ho] at h
        | grid e n m f =>
          simp only [ho] at h
          split at h
          · cases h
          · rename_i hagg
            injection h with h; injection h with h1 h2
            subst h1 h2
            obtain ⟨rfl, hk, rfl⟩ := hs
            have hg : GridRel w (σ.hdr i) (σ.blk i) (σ.sub i) e n m f := hS.obj i _ ho
            obtain ⟨h0, xs, h1, h2⟩ := hg.row
            obtain ⟨b', cap, q1, q2, q3⟩ := h2 k hk
            have hlt := (hS.fresh i _ b ho rfl hb).2.2
            refine ⟨.slice (some ⟨b', 0, none⟩) m cap, fun w' hw => ?_, ?_⟩
            · simp only [Instr.loadAt, Instr.sureAddr, Sem.run_bind, Sem.run_pure, Result.andThen_ok]
              refine run_loadVar_one hok (by simpa using hagg) ?_
              rw [cell_keep (w := w) (hw.block b hlt)]
              have := h1.cells (g := b) (by rw [h0, hb]) k _ q2
              rwa [add_lit, Nat.zero_add, ← Nat.mul_one k, ← Nat.add_zero (k * 1)] at this
            · simp only [Den]
              exact ⟨hi, b', cap, q1, rfl, q3⟩
        | row e sz' n sc f =>
          simp only [ho] at h
          have hpre : sz' = sz ∧ k < n := by
            split at h
            · injection h with h; injection h with h1 h2; subst h1; exact ⟨hs.1, hs.2.1⟩
            · injection h with h; injection h with h1 h2; subst h1; exact ⟨hs.1, hs.2.1⟩
          obtain ⟨rfl, hk⟩ := hpre
          obtain ⟨g, cap, cur, xs, e1, e2, e3, e4, e5, e6, e7, e8, e9, e10, e11⟩ := (hS.obj i _ ho).1.at (by omega)
          rw [hb] at e2; injection e2 with e2; subst e2
          exact key ho rfl hk e10 e11 h
        | arr sz' n sc f =>
          simp only [ho] at h
          have hpre : sz' = sz ∧ k < n := by
            split at h
            · injection h with h; injection h with h1 h2; subst h1; exact ⟨hs.1, hs.2.1⟩
            · injection h with h; injection h with h1 h2; subst h1; exact ⟨hs.1, hs.2.1⟩
          obtain ⟨rfl, hk⟩ := hpre
          obtain ⟨⟨g, xs, ty, e1, e2, e3, e4, e5⟩, _⟩ := hS.obj i _ ho
          rw [hb] at e1; injection e1 with e1; subst e1
          exact key ho rfl hk e5 (fun m v e => by rw [cell_at e2]; simpa using e) h
  | gp i k j =>
    simp only [loadP] at h
    cases hx : tget T t with
    | none => simp [hx] at h
    | some x =>
      have hok := hT t x hx
      simp only [hx] at h
      simp only [Den] at ha
      obtain ⟨hi, b, hb, rfl⟩ := ha
      split at h
      · rename_i x' e n m f heq ho
        injection heq with heq
        subst heq
        split at h
        · cases h
        · rename_i hagg
          injection h with h; injection h with h1 h2
          subst h1 h2
          obtain ⟨hk, hj⟩ := hs
          have hg : GridRel w (σ.hdr i) (σ.blk i) (σ.sub i) e n m f := hS.obj i _ ho
          obtain ⟨b', ys, ty, q1, q2, q3, q4⟩ := hg.inn k hk
          rw [hb] at q1; injection q1 with q1; subst q1
          obtain ⟨q5, q6⟩ := q4 j hj
          have hlt := (hS.freshH i _ b ho rfl (.inr ⟨k, hb⟩)).2.2
          refine ⟨f k j, fun w' hw => ?_, by simp only [Den, L.rd]; exact ⟨trivial, q6⟩⟩
          simp only [Instr.loadAt, Instr.sureAddr, Sem.run_bind, Sem.run_pure, Result.andThen_ok]
          refine run_loadVar_one hok (by simpa using hagg) ?_
          rw [cell_keep (w := w) (hw.block b hlt), cell_at q2]
          simpa using q5
      · cases h
  | _ => simp [loadP] at h

end
end Go.Proofs.YtjfnhehjhicnoaaDoor
