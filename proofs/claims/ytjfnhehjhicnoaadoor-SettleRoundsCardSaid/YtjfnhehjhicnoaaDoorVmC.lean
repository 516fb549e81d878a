/-
  The pure operations, all of them, in one function; and that the model's operation yields what it says.
-/
import Derived.Test.YtjfnhehjhicnoaaDoorVmB
namespace Go.Proofs.YtjfnhehjhicnoaaDoor
open Go.RowKit

def fieldP (T : Tab) (s : TypeId) (fld : Nat) (a : AV) : PV :=
  match tget T s with
  | some { td := .struct fs, .. } =>
    match fs[fld]? with
    | some (off, ft) =>
      match tget T ft with
      | some x => if x.size = 0 then none else match a with
        | .xp n f => some (.t, .xp (n - off) fun j => f (off + j))
        | .lp i o => some (.t, .lp i (o + off))
        | .rp i sz k j => some (.t, .rp i sz k (j + off))
        | _ => none
      | none => none
    | none => none
  | _ => none

def indexP (T : Tab) (obs : List OB) (t : TypeId) (a i : AV) : PV :=
  match tget T t with
  | some { td := .slice e, .. } =>
    match tget T e with
    | some x => match a, i with
      | .c (.sl sz n f), .c (.v (.int _ k)) => if sz = x.size then some (.p (0 ≤ k ∧ k < n), .xp sz (f k.toNat)) else none
      | .own o, .c (.v (.int _ k)) => match obs[o]? with
        | some (.row _ sz n _ _) => if sz = x.size then some (.p (0 ≤ k ∧ k < n), .rp o sz k.toNat 0) else none
        | some (.grid _ n _ _) => if 1 = x.size then some (.p (0 ≤ k ∧ k < n), .rp o 1 k.toNat 0) else none
        | _ => none
      | .gr o r m, .c (.v (.int _ k)) => if 1 = x.size then some (.p (0 ≤ k ∧ k < m), .gp o r k.toNat) else none
      | .ov o sz lo n, .c (.v (.int _ k)) => match obs[o]? with
        | some (.row _ _ _ _ _) => if sz = x.size then some (.p (0 ≤ k ∧ k < n), .rp o sz (lo + k.toNat) 0) else none
        | _ => none
      | .cp sz n f, .c (.v (.int _ k)) => if sz = x.size then some (.p (0 ≤ k ∧ k < n), .xp sz (f k.toNat)) else none
      | .sb o n, .c (.v (.int _ k)) => match k with
        | .ofNat k => if k < n ∧ x.size = 1 then some (.t, .lp o k) else none
        | _ => none
      | _, _ => none
    | none => none
  | some { td := .array n e, .. } =>
    match tget T e with
    | some x => match a, i with
      | .lp o off, .c (.v (.int _ k)) => match obs[o]? with
        | some (.arr sz _ _ _) => if sz = x.size ∧ off = 0 then some (.p (0 ≤ k ∧ k < n), .rp o sz k.toNat 0) else none
        | _ => match k with
          | .ofNat k => if k < n then some (.t, .lp o (off + k * x.size)) else none
          | _ => none
      | _, _ => none
    | none => none
  | _ => none

/-- the byte of a string -/
def strB (s : ByteArray) (i : Nat) : Int := ((s[i]?.map (·.toNat)).getD 0 : Nat)

def valP (T : Tab) (t : TypeId) (a i : AV) : PV :=
  match tget T t with
  | some { td := .str, .. } => match a, i with
    | .c (.v (.string s)), .c (.v (.int _ k)) => some (.p (0 ≤ k ∧ k < s.size), .c (.v (.int .u8 (strB s k.toNat))))
    | _, _ => none
  | some { td := .array n e, .. } => match tget T e, a, i with
    | some x, .agg cs, .c (.v (.int _ k)) => match k with
      | .ofNat k => if k < n then (match x.td.agg with
        | true => some (sdLe (k * x.size + x.size) cs.length, .agg ((cs.drop (k * x.size)).take x.size))
        | false => some (sdLt (k * x.size) cs.length, (cs[k * x.size]?).getD .top)) else none
      | _ => none
    | _, _, _ => none
  | _ => none

def loV : Option AV → Option Int
  | none => some 0
  | some (.c (.v (.int _ k))) => some k
  | _ => none
def hiV (n : Nat) : Option AV → Option Int
  | none => some n
  | some (.c (.v (.int _ k))) => some k
  | _ => none

def sliceP (T : Tab) (obs : List OB) (t : TypeId) (a : AV) (lo hi mx : Option AV) : PV :=
  match tget T t with
  | some { td := .str, .. } => match mx with
    | some _ => none
    | none => match a with
      | .c (.v (.string s)) => match loV lo, hiV s.size hi with
        | some l, some h => some (.p (0 ≤ l ∧ l ≤ h ∧ h ≤ s.size), strV (s.extract l.toNat h.toNat))
        | _, _ => none
      | _ => none
  | some { td := .slice e, .. } => match tget T e with
    | some x => match mx with
      | none => match a with
        | .c (.sl sz n f) => if sz = x.size then match loV lo, hiV n hi with
          | some l, some h => some (.p (0 ≤ l ∧ l ≤ h ∧ h ≤ n), .c (.sl sz (h.toNat - l.toNat) fun k j => f (l.toNat + k) j))
          | _, _ => none else none
        | .cp sz n f => if sz = x.size then match loV lo, hiV n hi with
          | some l, some h => some (.p (0 ≤ l ∧ l ≤ h ∧ h ≤ n), .c (.sl sz (h.toNat - l.toNat) fun k j => f (l.toNat + k) j))
          | _, _ => none else none
        | .c (.v (.slice none 0 0)) => match loV lo, hiV 0 hi with
          | some l, some h => some (.p (l = 0 ∧ h = 0), .c (.v (.slice none 0 0)))
          | _, _ => none
        | .own o => match obs[o]? with
          | some (.row _ sz n _ _) => if sz = x.size then match loV lo, hiV n hi with
            | some l, some h => some (.p (0 ≤ l ∧ l ≤ h ∧ h ≤ n), .ov o sz l.toNat (h.toNat - l.toNat))
            | _, _ => none else none
          | _ => none
        | .ov o sz lo0 n => if sz = x.size then match loV lo, hiV n hi with
          | some l, some h => some (.p (0 ≤ l ∧ l ≤ h ∧ h ≤ n), .ov o sz (lo0 + l.toNat) (h.toNat - l.toNat))
          | _, _ => none else none
        | _ => none
      | some m => match a with
        | .c (.sl sz n f) => if sz = x.size then match loV lo, hiV n hi, loV (some m) with
          | some l, some h, some mm => match hi with
            | some _ => some (.p (0 ≤ l ∧ l ≤ h ∧ h ≤ n ∧ mm = h), .cp sz (h.toNat - l.toNat) fun k j => f (l.toNat + k) j)
            | none => none
          | _, _, _ => none else none
        | .c (.v (.slice none 0 0)) => match loV lo, hiV 0 hi, loV (some m) with
          | some l, some h, some mm => match hi with
            | some _ => some (.p (l = 0 ∧ h = 0 ∧ mm = 0), .c (.v (.slice none 0 0)))
            | none => none
          | _, _, _ => none
        | _ => none
    | none => none
  | _ => none

def lenP (obs : List OB) : AV → PV
  | .c (.v (.string s)) => some (.t, intV s.size)
  | .c (.sl _ n _) => some (.t, intV n)
  | .c (.v (.slice none 0 0)) => some (.t, intV 0)
  | .own i => match obs[i]? with
    | some (.row _ _ n _ _) => some (.t, intV n)
    | _ => none
  | .ov _ _ _ n => some (.t, intV n)
  | .cp _ n _ => some (.t, intV n)
  | .sb _ n => some (.t, intV n)
  | .gr _ _ m => some (.t, intV m)
  | _ => none

def minG : Int → List AV → Option Int
  | x, [] => some x
  | x, .c (.v (.int .i64 y)) :: r => minG (min x y) r
  | _, _ => none
def minP : List AV → Option Int
  | .c (.v (.int .i64 x)) :: r => minG x r
  | _ => none
def maxG : Int → List AV → Option Int
  | x, [] => some x
  | x, .c (.v (.int .i64 y)) :: r => maxG (max x y) r
  | _, _ => none
def maxP : List AV → Option Int
  | .c (.v (.int .i64 x)) :: r => maxG x r
  | _ => none

def AV.cells : AV → Option (List AV)
  | .agg cs => some cs
  | .c l => some [.c l]
  | .own i => some [.own i]
  | .ov i sz lo n => some [.ov i sz lo n]
  | .cp sz n f => some [.c (.sl sz n f)]
  | .lp i off => some [.lp i off]
  | .fn f cap => some [.fn f cap]
  | _ => none

def setMany : List AV → Nat → List AV → List AV
  | l, _, [] => l
  | l, o, a :: r => setMany (l.set o a) (o + 1) r

def fillP (T : Tab) (fs : List (Nat × TypeId)) : List AV → List (Nat × AV) → Option (List AV)
  | l, [] => some l
  | l, (i, a) :: r => match fs[i]?, a.cells with
    | some (off, ft), some cs => match tget T ft with
      | some x => if cs.length = x.size ∧ off + cs.length ≤ l.length then fillP T fs (setMany l off cs) r else none
      | none => none
    | _, _ => none

def zeroCs (x : TE) : List AV := x.zero.cells.toList.map fun u => .c (.v u)

def buildP (T : Tab) (t : TypeId) (parts : List (Nat × AV)) : PV :=
  match tget T t with
  | some x => match x.td with
    | .struct fs => if fs.all (fun p => (tget T p.2).isSome) then match fillP T fs (zeroCs x) parts with
      | some cs => some (match x.zero.cells.toList.all Value.oneCell' with | true => .t | false => .p False, .agg cs)
      | none => none else none
    | .array n e => match tget T e with
      | some te => match fillP T ((List.range n).map fun i => (i * te.size, e)) (zeroCs x) parts with
        | some cs => some (match x.zero.cells.toList.all Value.oneCell' with | true => .t | false => .p False, .agg cs)
        | none => none
      | none => none
    | _ => none
  | none => none

def partP (T : Tab) (s : TypeId) (fld : Nat) (a : AV) : PV :=
  match tget T s with
  | some { td := .struct fs, .. } => match fs[fld]? with
    | some (off, ft) => match tget T ft, a with
      | some x, .agg cs => match x.td.agg with
        | true => some (sdLe (off + x.size) cs.length, .agg ((cs.drop off).take x.size))
        | false => some (sdLt off cs.length, (cs[off]?).getD .top)
      | _, _ => none
    | none => none
  | _ => none

def convP (T : Tab) (src dst : TypeId) (a : AV) : PV :=
  match tget T src, tget T dst, a with
  | some _, some { td := .int k, .. }, .c (.v (.int _ n)) => some (.t, .c (.v (.int k (k.wrap n))))
  | some { td := .str, .. }, some { td := .str, .. }, .c (.v (.string s)) => some (.t, strV s)
  | _, _, _ => none

def pickP (x y : Operand) (p : Bool) (a b : AV) : PV :=
  match y with
  | .const (.bool false) => match a with
    | .c (.v (.bool q)) => some (.t, boolV (p && q))
    | .gd h (.c (.v (.bool q))) => some (.p (p = true → h = true), boolV (p && q))
    | .gd _ .top => some (.p (p = false), boolV false)
    | _ => none
  | _ => match x with
    | .const (.bool true) => match b with
      | .c (.v (.bool q)) => some (.t, boolV (p || q))
      | .gd h (.c (.v (.bool q))) => some (.p (p = false → h = true), boolV (p || q))
      | .gd _ .top => some (.p (p = true), boolV true)
      | _ => none
    | _ => none

def eqCells (ks : List Nat) (as bs : List AV) : Option Bool :=
  match toCs as, toCs bs with
  | some us, some vs => eqVals ks us vs
  | _, _ => none

/-- two bools, two structs of plain cells -/
def eqP (T : Tab) (op : BinOp) (t : TypeId) (a b : AV) : PV :=
  match tget T t with
  | some x => match x.cmp with
    | .bool => match a, b with
      | .c (.v (.bool p)), .c (.v (.bool q)) => match op with
        | .eql => some (.t, boolV (p == q))
        | .neq => some (.t, boolV (p != q))
        | _ => none
      | _, _ => none
    | .st ks => match a, b with
      | .agg as, .agg bs => match eqCells ks as bs with
        | some r => match op with
          | .eql => some (.t, boolV r)
          | .neq => some (.t, boolV (!r))
          | _ => none
        | none => none
      | _, _ => none
    | .ar n k => match a, b with
      | .agg as, .agg bs => match eqCells (List.replicate n k) as bs with
        | some r => match op with
          | .eql => some (.t, boolV r)
          | .neq => some (.t, boolV (!r))
          | _ => none
        | none => none
      | _, _ => none
    | .ptr => none
    | .no => none
  | none => none

def builtP (T : Tab) (obs : List OB) (as : List AV) (c : Call) : PV :=
  match c.callee with
  | .builtin b => match b with
    | .len => match as, c.argTypes.toList with
      | [a], [t] => match tget T t with
        | some x => match x.td with
          | .str => match a with
            | .c (.v (.string s)) => some (.t, intV s.size)
            | _ => none
          | .slice _ => match a with
            | .c (.v (.string _)) => none
            | a => lenP obs a
          | _ => none
        | none => none
      | _, _ => none
    | .min => match minP as with
      | some n => some (.t, intV n)
      | none => none
    | .max => match maxP as with
      | some n => some (.t, intV n)
      | none => none
    | _ => none
  | _ => none

/-- a pointer held against nil -/
def ptrP (T : Tab) (t : TypeId) (n : Bool) : BinOp → PV
  | .eql => match tget T t with
    | some x => match x.cmp with
      | .ptr => some (.t, boolV n)
      | _ => none
    | none => none
  | .neq => match tget T t with
    | some x => match x.cmp with
      | .ptr => some (.t, boolV (!n))
      | _ => none
    | none => none
  | _ => none

/-- the pure operations: what is asked, what comes out. 'ρ': the operands, guards struck -/
def pv (T : Tab) (obs : List OB) (ρ : Operand → AV) : Op → PV
  | .move x => some (.t, ρ x)
  | .assign x => some (.t, ρ x)
  | .binOp op t x y _ => match ρ x, ρ y with
    | .c (.v (.bool p)), .c (.v (.bool q)) => eqP T op t (.c (.v (.bool p))) (.c (.v (.bool q)))
    | .lp _ _, .c (.v (.pointer none)) => ptrP T t false op
    | .xp _ _, .c (.v (.pointer none)) => ptrP T t false op
    | .rp _ _ _ _, .c (.v (.pointer none)) => ptrP T t false op
    | .c (.v (.pointer none)), .c (.v (.pointer none)) => ptrP T t true op
    | .c (.v a), .c (.v b) => some (binS op a b, .c (.v (binV op a b)))
    | .agg as, .agg bs => eqP T op t (.agg as) (.agg bs)
    | _, _ => none
  | .unOp op _ x => match op, ρ x with
    | .neg, .c (.v (.int k n)) => some (.t, .c (.v (.int k (k.wrap (0 - n)))))
    | .not, .c (.v (.bool b)) => some (.t, boolV !b)
    | _, _ => none
  | .convert src dst x => convP T src dst (ρ x)
  | .load t a => loadP T obs t (ρ a)
  | .fieldAddr s x f => fieldP T s f (ρ x)
  | .field s x f => partP T s f (ρ x)
  | .indexAddr t x i => indexP T obs t (ρ x) (ρ i)
  | .index t x i => valP T t (ρ x) (ρ i)
  | .nilCheck x => match ρ x with
    | .xp n f => some (.t, .xp n f)
    | .lp i o => some (.t, .lp i o)
    | .rp i sz k j => some (.t, .rp i sz k j)
    | .fn f cap => some (.t, .fn f cap)
    | _ => none
  | .extract x i => match ρ x with
    | .tup vs => match vs[i]? with
      | some a => some (.t, a)
      | none => none
    | _ => none
  | .slice t x lo hi mx => sliceP T obs t (ρ x) (lo.map ρ) (hi.map ρ) (mx.map ρ)
  | .makeFunc fn first cap => match fn, first.toList with
    | .func f, [] => some (.t, .fn f (cap.toList.map ρ))
    | _, _ => none
  | .build t parts => buildP T t (parts.toList.map fun p => (p.1, ρ p.2))
  | .call c => builtP T obs (c.args.toList.map ρ) c
  | _ => none

section
variable {P : Program} {T : Tab} {σ : Asg} {I : Nat → Prop} {w : World} {B : Nat → Prop} {obs : List OB}

theorem fieldP_sound (hT : TabOk P T) {s : TypeId} {fld : Nat} {a r : AV} {p : Sd} {ua : Value} (ha : Den σ I w a ua) (h : fieldP T s fld a = some (p, r)) :
    ∃ u, (∀ w', (Instr.fieldAt s ua fld).run P w' = .ok u w') ∧ Den σ I w r u := by
  unfold fieldP at h
  split at h
  · rename_i fs size bytes zero _ hx
    obtain ⟨d, i, h1, h2, _⟩ := (hT s _ hx).get
    have hF : ∃ F, d = .struct F ∧ F.toList.map (fun f => (f.offset, f.type)) = fs := by
      cases d <;> simp [TD.of] at h2
      exact ⟨_, rfl, h2⟩
    obtain ⟨F, rfl, hF⟩ := hF
    split at h
    · rename_i off ft hf
      split at h
      · rename_i x hft
        have hft' := hT ft x hft
        split at h
        · cases h
        · rename_i hsz
          have hg : ∃ f : Field, F[fld]? = some f ∧ f.offset = off ∧ f.type = ft := by
            rw [← hF] at hf
            simp only [List.getElem?_map, Option.map_eq_some_iff] at hf
            obtain ⟨f, e1, e2⟩ := hf
            injection e2 with e2 e3
            exact ⟨f, by simpa using e1, e2, e3⟩
          obtain ⟨f, e1, rfl, rfl⟩ := hg
          have hrun : ∀ (ad : Addr) (w' : World), (Instr.fieldAt s (.pointer (some ad)) fld).run P w' = .ok (.pointer (some (ad.add f.offset))) w' := fun ad w' => by
            simp only [Instr.fieldAt, Sem.run_bind, run_underlying h1, Result.andThen_ok, e1, Instr.sureAddr, Sem.run_pure, fieldPlace, run_sizeOf' hft', hsz, if_false]
          split at h
          · injection h with h; injection h with _ h; subst h
            simp only [Den] at ha ⊢
            obtain ⟨ad, rfl, hb, hc⟩ := ha
            exact ⟨_, fun w' => hrun ad w', ad.add f.offset, rfl, by rw [add_block]; exact hb, fun j hj => by
              obtain ⟨c, e1, e2⟩ := hc (f.offset + j) (by omega)
              exact ⟨c, by rw [add_add]; exact e1, e2⟩⟩
          · injection h with h; injection h with _ h; subst h
            simp only [Den] at ha ⊢
            obtain ⟨hi, b, hb, rfl⟩ := ha
            exact ⟨_, fun w' => hrun _ w', hi, b, hb, by rw [add_lit]⟩
          · injection h with h; injection h with _ h; subst h
            simp only [Den] at ha ⊢
            obtain ⟨hi, b, hb, rfl⟩ := ha
            exact ⟨_, fun w' => hrun _ w', hi, b, hb, by rw [add_lit, Nat.add_assoc]⟩
          · cases h
      · cases h
    · cases h
  · cases h

theorem indexP_sound (hT : TabOk P T) (hS : Store σ I w B obs) {t : TypeId} {a i r : AV} {p : Sd} {ua ui : Value} (ha : Den σ I w a ua) (hi : Den σ I w i ui) (h : indexP T obs t a i = some (p, r)) (hp : p.ok) :
    ∃ u, (∀ w', (Instr.indexAt t ua ui).run P w' = .ok u w') ∧ Den σ I w r u := by
  unfold indexP at h
  split at h
  · rename_i e _ _ _ _ hx
    obtain ⟨d, ti, h1, h2, _⟩ := (hT t _ hx).get
    have hd : d = .slice e := by cases d <;> simp [TD.of] at h2; rw [h2]
    subst hd
    split at h
    · rename_i x hxe
      have hxe' := hT e x hxe
      have hrun : ∀ (kd : IntKind) (k : Int) (ad : Addr) (n cap : Nat) (w' : World), 0 ≤ k → k < n →
          (Instr.indexAt t (.slice (some ad) n cap) (.int kd k)).run P w' = .ok (.pointer (some (ad.add (k.toNat * x.size)))) w' := fun kd k ad n cap w' h0 hn => by
        simp [Instr.indexAt, asIntOf, run_underlying h1, h0, hn, run_sizeOf' hxe']
      split at h
      · rename_i sz n f kd k
        split at h
        · rename_i hsz
          injection h with h; injection h with e1 e2; subst e1 e2
          simp only [Sd.ok] at hp
          simp only [Den, L.rd] at ha hi
          obtain ⟨rfl, _⟩ := hi
          obtain ⟨A, cap, rfl, hnc, _, hA⟩ := ha
          obtain ⟨ad, rfl, hb, hc⟩ := hA (by omega)
          refine ⟨_, fun w' => hrun kd k ad n cap w' hp.1 hp.2, ?_⟩
          simp only [Den]
          exact ⟨_, rfl, by rw [add_block]; exact hb, fun j hj => by
            obtain ⟨c, e1, e2⟩ := hc k.toNat (by omega) j hj
            exact ⟨c, by rw [add_add, ← hsz]; exact e1, e2⟩⟩
        · cases h
      · rename_i o kd k
        split at h
        · rename_i e' sz n sc f ho
          split at h
          · rename_i hsz
            injection h with h; injection h with e1 e2; subst e1 e2
            simp only [Sd.ok] at hp
            simp only [Den] at ha
            simp only [Den, L.rd] at hi
            obtain ⟨rfl, _⟩ := hi
            obtain ⟨hlt, rfl, _⟩ := ha
            obtain ⟨g, cap, cur, xs, hh, hg, _⟩ := (hS.obj o _ ho).1.at (by omega)
            rw [hh]
            refine ⟨_, fun w' => hrun kd k _ n cap w' hp.1 hp.2, ?_⟩
            simp only [Den]
            exact ⟨hlt, g, hg, by rw [add_lit, hsz]; simp⟩
          · cases h
        · rename_i e' n m f ho
          split at h
          · rename_i hsz
            injection h with h; injection h with e1 e2; subst e1 e2
            simp only [Sd.ok] at hp
            simp only [Den] at ha
            simp only [Den, L.rd] at hi
            obtain ⟨rfl, _⟩ := hi
            obtain ⟨hlt, rfl, _⟩ := ha
            have hg : GridRel w (σ.hdr o) (σ.blk o) (σ.sub o) e' n m f := hS.obj o _ ho
            obtain ⟨h0, xs, hrow, _⟩ := hg.row
            rcases hrow.2 with ⟨_, hn⟩ | ⟨g, cap, cur, hh, _⟩
            · omega
            · rw [hh] at h0 ⊢
              refine ⟨_, fun w' => hrun kd k _ n cap w' hp.1 hp.2, ?_⟩
              simp only [Den]
              exact ⟨hlt, g, h0.symm, by rw [add_lit, ← hsz]; simp⟩
          · cases h
        · cases h
      · rename_i o r' m kd k
        split at h
        · rename_i hsz
          injection h with h; injection h with e1 e2; subst e1 e2
          simp only [Sd.ok] at hp
          simp only [Den] at ha
          simp only [Den, L.rd] at hi
          obtain ⟨rfl, _⟩ := hi
          obtain ⟨hlt, b, cap, hb, rfl, _⟩ := ha
          refine ⟨_, fun w' => hrun kd k _ m cap w' hp.1 hp.2, ?_⟩
          simp only [Den]
          exact ⟨hlt, b, hb, by rw [add_lit, ← hsz]; simp⟩
        · cases h
      · rename_i o sz lo n kd k
        split at h
        · rename_i e' sz' n' sc' f' ho
          split at h
          · rename_i hsz
            injection h with h; injection h with e1 e2; subst e1 e2
            simp only [Sd.ok] at hp
            simp only [Den] at ha
            simp only [Den, L.rd] at hi
            obtain ⟨rfl, _⟩ := hi
            obtain ⟨hlt, A, cap, rfl, hnc, _, hA⟩ := ha
            obtain ⟨b, m, C, h1', rfl, h3', _⟩ := hA (by clear hA; omega)
            clear hA
            refine ⟨_, fun w' => hrun kd k _ n cap w' hp.1 hp.2, ?_⟩
            simp only [Den]
            have hrr := (hS.obj o _ ho).1
            obtain ⟨A', C', q1, _⟩ := hrr.len
            rw [h1'] at q1
            injection q1 with _ q1 _
            obtain ⟨g, cap', cur, xs, hh, hg, _⟩ := hrr.at (by omega)
            rw [h1'] at hh
            injection hh with hh
            injection hh with hh
            injection hh with hh
            exact ⟨hlt, g, hg, by rw [add_lit, hsz, Nat.add_mul, hh]; simp⟩
          · cases h
        · cases h
      · rename_i sz n f kd k
        split at h
        · rename_i hsz
          injection h with h; injection h with e1 e2; subst e1 e2
          simp only [Sd.ok] at hp
          simp only [Den, L.rd] at ha hi
          obtain ⟨rfl, _⟩ := hi
          obtain ⟨⟨A, cap, rfl, hnc, _, hA⟩, _⟩ := ha
          obtain ⟨ad, rfl, hb, hc⟩ := hA (by omega)
          refine ⟨_, fun w' => hrun kd k ad n cap w' hp.1 hp.2, ?_⟩
          simp only [Den]
          exact ⟨_, rfl, by rw [add_block]; exact hb, fun j hj => by
            obtain ⟨c, e1, e2⟩ := hc k.toNat (by omega) j hj
            exact ⟨c, by rw [add_add, ← hsz]; exact e1, e2⟩⟩
        · cases h
      · rename_i o n kd k
        split at h
        · rename_i k
          split at h
          · rename_i hsz
            injection h with h; injection h with e1 e2; subst e1 e2
            simp only [Den] at ha
            simp only [Den, L.rd] at hi
            obtain ⟨rfl, _⟩ := hi
            obtain ⟨hlt, b, hb, rfl, _⟩ := ha
            refine ⟨_, fun w' => hrun kd _ _ n n w' (Int.natCast_nonneg k) (Int.ofNat_lt.2 hsz.1), ?_⟩
            simp only [Den]
            exact ⟨hlt, b, hb, by rw [add_lit, hsz.2]; simp⟩
          · cases h
        · cases h
      · cases h
    · cases h
  · rename_i n e _ _ _ _ hx
    obtain ⟨d, ti, h1, h2, _⟩ := (hT t _ hx).get
    have hd : d = .array n e := by cases d <;> simp [TD.of] at h2; rw [h2.1, h2.2]
    subst hd
    split at h
    · rename_i x hxe
      have hxe' := hT e x hxe
      split at h
      · rename_i o off kd k
        have hrun : ∀ (k : Int) (ad : Addr) (w' : World), 0 ≤ k → k < n → (Instr.indexAt t (.pointer (some ad)) (.int kd k)).run P w' = .ok (.pointer (some (ad.add (k.toNat * x.size)))) w' := fun k ad w' h0 hn => by
          simp [Instr.indexAt, asIntOf, run_underlying h1, run_sizeOf' hxe', Instr.sureAddr, h0, hn]
        simp only [Den, L.rd] at ha hi
        obtain ⟨rfl, hone⟩ := hi
        clear hone
        obtain ⟨hlt, b, hb, rfl⟩ := ha
        split at h
        · split at h
          · rename_i hsz
            injection h with h; injection h with e1 e2; subst e1 e2
            simp only [Sd.ok] at hp
            obtain ⟨rfl, rfl⟩ := hsz
            refine ⟨_, fun w' => hrun k _ w' hp.1 hp.2, ?_⟩
            simp only [Den]
            exact ⟨hlt, b, hb, by rw [add_lit]; simp⟩
          · cases h
        · split at h
          · rename_i k
            split at h
            · rename_i hk
              injection h with h; injection h with e1 e2; subst e1 e2
              refine ⟨_, fun w' => hrun (Int.ofNat k) _ w' (Int.natCast_nonneg k) (by simpa using hk), ?_⟩
              simp only [Den]
              exact ⟨hlt, b, hb, by rw [add_lit]; simp⟩
            · cases h
          · cases h
      · cases h
    · cases h
  · cases h

theorem valP_sound (hT : TabOk P T) {t : TypeId} {a i r : AV} {p : Sd} {ua ui : Value} (ha : Den σ I w a ua) (hi : Den σ I w i ui) (h : valP T t a i = some (p, r)) (hp : p.ok) :
    ∃ u, (∀ w', (Instr.index t ua ui).run P w' = .ok u w') ∧ Den σ I w r u := by
  unfold valP at h
  split at h
  · rename_i _ _ _ hx
    obtain ⟨d, ti, h1, h2, _⟩ := (hT t _ hx).get
    have hd : d = .string := by cases d <;> simp [TD.of] at h2; rfl
    subst hd
    split at h
    · rename_i s kd k
      injection h with h; injection h with e1 e2; subst e1 e2
      simp only [Sd.ok] at hp
      simp only [Den, L.rd] at ha hi
      obtain ⟨rfl, _⟩ := ha
      obtain ⟨rfl, _⟩ := hi
      have hlt : k.toNat < s.size := by omega
      refine ⟨.int .u8 (strB s k.toNat), fun w' => ?_, by simp only [Den, L.rd]; exact ⟨trivial, rfl⟩⟩
      simp [Instr.index, asIntOf, run_underlying h1, hp.1, strB, hlt]
    · cases h
  · rename_i n e _ _ _ _ hx
    obtain ⟨d, ti, h1, h2, _⟩ := (hT t _ hx).get
    have hd : d = .array n e := by cases d <;> simp [TD.of] at h2; rw [h2.1, h2.2]
    subst hd
    split at h
    · rename_i x cs kd k0 he
      have he' := hT e x he
      split at h
      · rename_i k
        split at h
        · rename_i hkn
          simp only [Den] at ha hi
          simp only [L.rd] at hi
          obtain ⟨us, rfl, hd, h1c⟩ := ha
          obtain ⟨rfl, _⟩ := hi
          have hlen := hd.len
          have hk2 : (Int.ofNat k) < (n : Int) := Int.ofNat_lt.2 hkn
          have hk0 : (0 : Int) ≤ Int.ofNat k := Int.natCast_nonneg k
          have hkt : (Int.ofNat k).toNat = k := rfl
          split at h
          · rename_i hagg
            injection h with h; injection h with e2 e3; subst e2 e3
            have hp := sdLe_spec hp
            refine ⟨.agg (us.toArray.extract (k * x.size) (k * x.size + x.size)), fun w' => ?_, ?_⟩
            · simp only [Instr.index, asIntOf, Sem.run_bind, Sem.run_pure, Result.andThen_ok, run_underlying h1, hk0, hk2, and_self, if_true, run_sizeOf' he', hkt]
              simp [part, run_isAgg he', hagg, run_sizeOf' he']
            · simp only [Den]
              refine ⟨(us.drop (k * x.size)).take x.size, ?_, (hd.drop _).take _, fun v hv => h1c v (List.mem_of_mem_drop (List.mem_of_mem_take hv))⟩
              simp [List.take_drop]
          · rename_i hagg
            injection h with h; injection h with e2 e3; subst e2 e3
            have hp := sdLt_spec hp
            obtain ⟨u, g1, g2⟩ := hd.get (k * x.size) cs[k * x.size] (List.getElem?_eq_getElem hp)
            refine ⟨u, fun w' => ?_, by rw [List.getElem?_eq_getElem hp]; exact g2⟩
            have hagg' : x.td.agg = false := by simpa using hagg
            simp only [Instr.index, asIntOf, Sem.run_bind, Sem.run_pure, Result.andThen_ok, run_underlying h1, hk0, hk2, and_self, if_true, run_sizeOf' he', hkt]
            simp [part, run_isAgg he', hagg', g1]
        · cases h
      · cases h
    · cases h
  · cases h

theorem loV_sound {lo : Option AV} {ulo : Option Value} {l : Int} (hd : ∀ a, lo = some a → ∃ u, ulo = some u ∧ Den σ I w a u) (hn : lo = none → ulo = none) (h : loV lo = some l) :
    (ulo = none ∧ l = 0) ∨ ∃ k, ulo = some (.int k l) := by
  unfold loV at h
  split at h
  · injection h with h; exact .inl ⟨hn rfl, h.symm⟩
  · rename_i kd k
    injection h with h; subst h
    obtain ⟨u, e1, e2⟩ := hd _ rfl
    simp only [Den, L.rd] at e2
    obtain ⟨rfl, _⟩ := e2
    exact .inr ⟨_, e1⟩
  · cases h
theorem hiV_sound {n : Nat} {hi : Option AV} {uhi : Option Value} {l : Int} (hd : ∀ a, hi = some a → ∃ u, uhi = some u ∧ Den σ I w a u) (hn : hi = none → uhi = none) (h : hiV n hi = some l) :
    (uhi = none ∧ l = n) ∨ ∃ k, uhi = some (.int k l) := by
  unfold hiV at h
  split at h
  · injection h with h; exact .inl ⟨hn rfl, h.symm⟩
  · rename_i kd k
    injection h with h; subst h
    obtain ⟨u, e1, e2⟩ := hd _ rfl
    simp only [Den, L.rd] at e2
    obtain ⟨rfl, _⟩ := e2
    exact .inr ⟨_, e1⟩
  · cases h

theorem run_bounds {P : Program} {b : Bool} {len cap : Nat} {ulo uhi : Option Value} {l h : Int} (hlo : (ulo = none ∧ l = 0) ∨ ∃ k, ulo = some (.int k l)) (hhi : (uhi = none ∧ h = len) ∨ ∃ k, uhi = some (.int k h))
    (h0 : 0 ≤ l) (h1 : l ≤ h) (h2 : h ≤ len) (h3 : len ≤ cap) (w' : World) : (Instr.sliceBounds b len cap ulo uhi none).run P w' = .ok (l.toNat, h.toNat, cap) w' := by
  rcases hlo with ⟨rfl, rfl⟩ | ⟨kl, rfl⟩ <;> rcases hhi with ⟨rfl, rfl⟩ | ⟨kh, rfl⟩
  · simp [Instr.sliceBounds]
  · have e1 : 0 ≤ h ∧ h ≤ (cap : Int) := ⟨h1, by omega⟩
    simp [Instr.sliceBounds, Instr.sliceBound, asIntOf, e1]
  · have e1 : 0 ≤ l ∧ l ≤ (len : Int) := ⟨h0, by omega⟩
    simp [Instr.sliceBounds, Instr.sliceBound, asIntOf, e1]
  · have e1 : 0 ≤ h ∧ h ≤ (cap : Int) := ⟨by omega, by omega⟩
    have e2 : 0 ≤ l ∧ l ≤ h := ⟨h0, h1⟩
    have e3 : ((h.toNat : Nat) : Int) = h := by omega
    simp [Instr.sliceBounds, Instr.sliceBound, asIntOf, e1, e2, e3]

theorem run_bounds3 {P : Program} {b : Bool} {len cap : Nat} {ulo : Option Value} {vh vm : Value} {kh km : IntKind} {l h m : Int} (hlo : (ulo = none ∧ l = 0) ∨ ∃ k, ulo = some (.int k l)) (eh : vh = .int kh h) (em : vm = .int km m)
    (h0 : 0 ≤ l) (h1 : l ≤ h) (h2 : h ≤ len) (h3 : len ≤ cap) (hm : m = h) (w' : World) : (Instr.sliceBounds b len cap ulo (some vh) (some vm)).run P w' = .ok (l.toNat, h.toNat, h.toNat) w' := by
  subst eh em hm
  obtain ⟨q, rfl⟩ := Int.eq_ofNat_of_zero_le (show 0 ≤ m by omega)
  obtain ⟨r, rfl⟩ := Int.eq_ofNat_of_zero_le h0
  have e1 : q ≤ cap := by omega
  have e2 : r ≤ q := by omega
  rcases hlo with ⟨rfl, hl⟩ | ⟨kl, rfl⟩
  · obtain rfl : r = 0 := by omega
    simp [Instr.sliceBounds, Instr.sliceBound, asIntOf, e1]
  · simp [Instr.sliceBounds, Instr.sliceBound, asIntOf, e1, e2]

theorem slice_rd {sz n : Nat} {f : Nat → Nat → L} {A : Option Addr} {cap l h m : Nat} (hd : (L.sl sz n f).rd w I (.slice A n cap)) (h1 : l ≤ h) (h2 : h ≤ n) (h3 : h ≤ m) (h4 : m ≤ cap) :
    (L.sl sz (h - l) fun k j => f (l + k) j).rd w I (.slice (if m = l then A else A.map (·.add (l * sz))) (h - l) (m - l)) := by
  simp only [L.rd] at hd ⊢
  obtain ⟨A', cap', e, hnc, hcm, hA⟩ := hd
  injection e with e1 e2 e3
  subst e1 e3
  refine ⟨_, _, rfl, by omega, by omega, fun hn => ?_⟩
  obtain ⟨ad, rfl, hI, hc⟩ := hA (by omega)
  rw [if_neg (by omega)]
  refine ⟨_, rfl, by rw [add_block]; exact hI, fun k hk j hj => ?_⟩
  obtain ⟨c, e1, e2⟩ := hc (l + k) (by omega) j hj
  exact ⟨c, by rw [add_add, ← Nat.add_assoc, ← Nat.add_mul]; exact e1, e2⟩

theorem sliceP_sound (hT : TabOk P T) (hS : Store σ I w B obs) {t : TypeId} {a r : AV} {lo hi mx : Option AV} {p : Sd} {ua : Value} {ulo uhi umx : Option Value} (ha : Den σ I w a ua)
    (hlo : ∀ a, lo = some a → ∃ u, ulo = some u ∧ Den σ I w a u) (hlo0 : lo = none → ulo = none) (hhi : ∀ a, hi = some a → ∃ u, uhi = some u ∧ Den σ I w a u) (hhi0 : hi = none → uhi = none)
    (hmx : ∀ a, mx = some a → ∃ u, umx = some u ∧ Den σ I w a u) (hmx0 : mx = none → umx = none)
    (h : sliceP T obs t a lo hi mx = some (p, r)) (hp : p.ok) : ∃ u, (∀ w', (Instr.sliceAt t ua ulo uhi umx).run P w' = .ok u w') ∧ Den σ I w r u := by
  unfold sliceP at h
  split at h
  · rename_i _ _ _ hx
    obtain ⟨d, ti, h1, h2, _⟩ := (hT t _ hx).get
    have hd : d = .string := by cases d <;> simp [TD.of] at h2; rfl
    subst hd
    split at h
    · cases h
    · obtain rfl := hmx0 rfl
      split at h
      · rename_i s
        split at h
        · rename_i l hh el eh
          injection h with h; injection h with e1 e2; subst e1 e2
          simp only [Sd.ok] at hp
          simp only [Den, L.rd] at ha
          obtain ⟨rfl, _⟩ := ha
          have hb := fun w' => run_bounds (P := P) (b := false) (len := s.size) (cap := s.size) (loV_sound hlo hlo0 el) (hiV_sound hhi hhi0 eh) hp.1 hp.2.1 hp.2.2 (Nat.le_refl _) w'
          refine ⟨.string (s.extract l.toNat hh.toNat), fun w' => ?_, by simp only [strV, Den, L.rd]; exact ⟨trivial, rfl⟩⟩
          simp [Instr.sliceAt, Instr.slice, run_underlying h1, hb]
        · cases h
      · cases h
  · rename_i e _ _ _ _ hx
    obtain ⟨d, ti, h1, h2, _⟩ := (hT t _ hx).get
    have hd : d = .slice e := by cases d <;> simp [TD.of] at h2; rw [h2]
    subst hd
    split at h
    · rename_i x hxe
      have hxe' := hT e x hxe
      split at h
      · obtain rfl := hmx0 rfl
        have go : ∀ {A : Option Addr} {n cap : Nat} {l hh : Int}, loV lo = some l → hiV n hi = some hh → 0 ≤ l → l ≤ hh → hh ≤ n → n ≤ cap → ∀ w', (Instr.sliceAt t (.slice A n cap) ulo uhi none).run P w' =
            .ok (.slice (if cap = l.toNat then A else A.map (·.add (l.toNat * x.size))) (hh.toNat - l.toNat) (cap - l.toNat)) w' := fun {A n cap l hh} el eh p1 p2 p3 p4 w' => by
          have hb := fun w' => run_bounds (P := P) (b := true) (len := n) (cap := cap) (loV_sound hlo hlo0 el) (hiV_sound hhi hhi0 eh) p1 p2 p3 p4 w'
          simp [Instr.sliceAt, Instr.slice, run_underlying h1, hb, run_sizeOf' hxe']
        split at h
        · rename_i sz n f
          split at h
          · rename_i hsz
            split at h
            · rename_i l hh el eh
              injection h with h; injection h with e1 e2; subst e1 e2
              simp only [Sd.ok] at hp
              simp only [Den] at ha
              have ha' := ha
              simp only [L.rd] at ha
              obtain ⟨A, cap, rfl, hnc, hcm, hA⟩ := ha
              refine ⟨_, fun w' => go el eh hp.1 hp.2.1 hp.2.2 hnc w', ?_⟩
              simp only [Den]
              rw [← hsz]
              exact slice_rd ha' (by omega) (by omega) (by omega) (Nat.le_refl _)
            · cases h
          · cases h
        · rename_i sz n f
          split at h
          · rename_i hsz
            split at h
            · rename_i l hh el eh
              injection h with h; injection h with e1 e2; subst e1 e2
              simp only [Sd.ok] at hp
              simp only [Den] at ha
              obtain ⟨ha, _⟩ := ha
              have ha' := ha
              simp only [L.rd] at ha
              obtain ⟨A, cap, rfl, hnc, hcm, hA⟩ := ha
              refine ⟨_, fun w' => go el eh hp.1 hp.2.1 hp.2.2 hnc w', ?_⟩
              simp only [Den]
              rw [← hsz]
              exact slice_rd ha' (by omega) (by omega) (by omega) (Nat.le_refl _)
            · cases h
          · cases h
        · split at h
          · rename_i l hh el eh
            injection h with h; injection h with e1 e2; subst e1 e2
            simp only [Sd.ok] at hp
            obtain ⟨rfl, rfl⟩ := hp
            simp only [Den, L.rd] at ha
            obtain ⟨rfl, _⟩ := ha
            refine ⟨_, fun w' => go el eh (Int.le_refl _) (Int.le_refl _) (Int.le_refl _) (Nat.le_refl _) w', ?_⟩
            simp [Den, L.rd, Value.oneCell']
          · cases h
        · rename_i o
          split at h
          · rename_i e' sz n sc f ho
            split at h
            · rename_i hsz
              split at h
              · rename_i l hh el eh
                injection h with h; injection h with e1 e2; subst e1 e2
                simp only [Sd.ok] at hp
                simp only [Den] at ha
                obtain ⟨hlt, rfl, _⟩ := ha
                have hrr := (hS.obj o _ ho).1
                obtain ⟨A, cap, q1, q2, q3⟩ := hrr.len
                rw [q1]
                refine ⟨_, fun w' => go el eh hp.1 hp.2.1 hp.2.2 q2 w', ?_⟩
                simp only [Den]
                refine ⟨hlt, _, _, rfl, by omega, by omega, fun hn => ?_⟩
                obtain ⟨g, rfl⟩ := hrr.room q1 (by omega)
                rw [if_neg (by omega)]
                exact ⟨g, n, cap, q1, by simp only [Option.map_some, add_lit, Nat.zero_add]; rw [hsz], by omega, by omega⟩
              · cases h
            · cases h
          · cases h
        · rename_i o sz lo0 n
          split at h
          · rename_i hsz
            split at h
            · rename_i l hh el eh
              injection h with h; injection h with e1 e2; subst e1 e2
              simp only [Sd.ok] at hp
              simp only [Den] at ha
              obtain ⟨hlt, A, cap, rfl, q2, q3, q4⟩ := ha
              refine ⟨_, fun w' => go el eh hp.1 hp.2.1 hp.2.2 q2 w', ?_⟩
              simp only [Den]
              refine ⟨hlt, _, _, rfl, by clear q4; omega, by clear q4; omega, fun hn => ?_⟩
              obtain ⟨b, m, C, r1, rfl, r3, r4⟩ := q4 (by clear q4; omega)
              clear q4
              rw [if_neg (by omega)]
              exact ⟨b, m, C, r1, by simp only [Option.map_some, add_lit]; rw [hsz, Nat.add_mul], by omega, by omega⟩
            · cases h
          · cases h
        · cases h
      · rename_i mx0
        obtain ⟨um, rfl, hum⟩ := hmx _ rfl
        split at h
        · rename_i sz n f
          split at h
          · rename_i hsz
            split at h
            · rename_i l hh mm el eh em
              split at h
              · rename_i hi0
                injection h with h; injection h with e1 e2; subst e1 e2
                simp only [Sd.ok] at hp
                obtain ⟨p1, p2, p3, p4⟩ := hp
                simp only [Den] at ha
                have ha' := ha
                simp only [L.rd] at ha
                obtain ⟨A, cap, rfl, hnc, hcm, hA⟩ := ha
                rcases hiV_sound hhi hhi0 eh with ⟨q, _⟩ | ⟨kh, q⟩
                · obtain ⟨u, q', _⟩ := hhi _ rfl; rw [q'] at q; cases q
                rcases loV_sound (ulo := some um) (lo := some mx0) (fun a e => by injection e with e; subst e; exact ⟨um, rfl, hum⟩) (fun e => by cases e) em with ⟨q', _⟩ | ⟨km, q'⟩
                · cases q'
                injection q' with q'
                subst q
                have hb := fun w' => run_bounds3 (P := P) (b := true) (len := n) (cap := cap) (kh := kh) (loV_sound hlo hlo0 el) rfl q' p1 p2 p3 hnc p4 w'
                refine ⟨.slice (if hh.toNat = l.toNat then A else A.map (·.add (l.toNat * x.size))) (hh.toNat - l.toNat) (hh.toNat - l.toNat), fun w' => ?_, ?_⟩
                · simp [Instr.sliceAt, Instr.slice, run_underlying h1, hb, run_sizeOf' hxe']
                · simp only [Den]
                  refine ⟨?_, _, rfl⟩
                  rw [← hsz]
                  exact slice_rd ha' (by omega) (by omega) (Nat.le_refl _) (by omega)
              · cases h
            · cases h
          · cases h
        · split at h
          · rename_i l hh mm el eh em
            split at h
            · rename_i hi0
              injection h with h; injection h with e1 e2; subst e1 e2
              simp only [Sd.ok] at hp
              obtain ⟨rfl, rfl, rfl⟩ := hp
              simp only [Den, L.rd] at ha
              obtain ⟨rfl, _⟩ := ha
              rcases hiV_sound hhi hhi0 eh with ⟨q, _⟩ | ⟨kh, q⟩
              · obtain ⟨u, q', _⟩ := hhi _ rfl; rw [q'] at q; cases q
              rcases loV_sound (ulo := some um) (lo := some mx0) (fun a e => by injection e with e; subst e; exact ⟨um, rfl, hum⟩) (fun e => by cases e) em with ⟨q', _⟩ | ⟨km, q'⟩
              · cases q'
              injection q' with q'
              subst q
              have hb := fun w' => run_bounds3 (P := P) (b := true) (len := 0) (cap := 0) (kh := kh) (loV_sound hlo hlo0 el) rfl q' (Int.le_refl _) (Int.le_refl _) (Int.le_refl _) (Nat.le_refl _) rfl w'
              refine ⟨.slice none 0 0, fun w' => ?_, ?_⟩
              · simp [Instr.sliceAt, Instr.slice, run_underlying h1, hb, run_sizeOf' hxe']
              · simp [Den, L.rd, Value.oneCell']
            · cases h
          · cases h
        · cases h
    · cases h
  · cases h

theorem minG_sound : ∀ {as : List AV} {us : List Value} {x n : Int}, DenL σ I w as us → minG x as = some n → ∀ w' : World, (us.foldlM Builtin.min2 (.int .i64 x)).run P w' = .ok (.int .i64 n) w'
  | [], us, x, n, hd, h, w' => by
    simp only [DenL] at hd; subst hd
    simp only [minG] at h; injection h with h; subst h
    rfl
  | a :: as, us, x, n, hd, h, w' => by
    simp only [DenL] at hd
    obtain ⟨u, us', rfl, h1, h2⟩ := hd
    cases a with
    | c l => cases l with
      | v v => cases v with
        | int k y => cases k with
          | i64 =>
            simp only [Den, L.rd] at h1
            obtain ⟨rfl, _⟩ := h1
            simp only [minG] at h
            have := minG_sound h2 h w'
            simp only [List.foldlM_cons, Builtin.min2, pure_bind]
            rw [show (if y < x then y else x) = min x y from by simp only [Int.min_def]; split <;> split <;> omega]
            exact this
          | _ => simp [minG] at h
        | _ => simp [minG] at h
      | _ => simp [minG] at h
    | _ => simp [minG] at h
theorem maxG_sound : ∀ {as : List AV} {us : List Value} {x n : Int}, DenL σ I w as us → maxG x as = some n → ∀ w' : World, (us.foldlM Builtin.max2 (.int .i64 x)).run P w' = .ok (.int .i64 n) w'
  | [], us, x, n, hd, h, w' => by
    simp only [DenL] at hd; subst hd
    simp only [maxG] at h; injection h with h; subst h
    rfl
  | a :: as, us, x, n, hd, h, w' => by
    simp only [DenL] at hd
    obtain ⟨u, us', rfl, h1, h2⟩ := hd
    cases a with
    | c l => cases l with
      | v v => cases v with
        | int k y => cases k with
          | i64 =>
            simp only [Den, L.rd] at h1
            obtain ⟨rfl, _⟩ := h1
            simp only [maxG] at h
            have := maxG_sound h2 h w'
            simp only [List.foldlM_cons, Builtin.max2, pure_bind]
            rw [show (if y > x then y else x) = max x y from by simp only [Int.max_def]; split <;> split <;> omega]
            exact this
          | _ => simp [maxG] at h
        | _ => simp [maxG] at h
      | _ => simp [maxG] at h
    | _ => simp [maxG] at h

theorem AV.cells_sound {a : AV} {cs : List AV} {u : Value} (h : a.cells = some cs) (hd : Den σ I w a u) : ∃ us : List Value, u.cells = us.toArray ∧ DenL σ I w cs us ∧ ∀ x ∈ us, x.oneCell' = true := by
  cases a with
  | agg xs =>
    simp only [AV.cells] at h; injection h with h; subst h
    simp only [Den] at hd
    obtain ⟨us, rfl, h1, h2⟩ := hd
    exact ⟨us, rfl, h1, h2⟩
  | c l =>
    simp only [AV.cells] at h; injection h with h; subst h
    simp only [Den] at hd
    have := L.rd_one hd
    refine ⟨[u], ?_, by simp only [DenL, Den]; exact ⟨u, [], rfl, hd, rfl⟩, fun x hx => by simp at hx; subst hx; exact this⟩
    cases u <;> first | rfl | (simp [Value.oneCell'] at this)
  | own i =>
    simp only [AV.cells] at h; injection h with h; subst h
    have hd' := hd
    simp only [Den] at hd
    have := hd.2.2
    refine ⟨[u], ?_, by simp only [DenL]; exact ⟨u, [], rfl, hd', rfl⟩, fun x hx => by simp at hx; subst hx; exact this⟩
    cases u <;> first | rfl | (simp [Value.oneCell'] at this)
  | ov i sz lo n =>
    simp only [AV.cells] at h; injection h with h; subst h
    have hd' := hd
    simp only [Den] at hd
    obtain ⟨_, A, cap, rfl, _⟩ := hd
    exact ⟨[_], rfl, by simp only [DenL]; exact ⟨_, [], rfl, hd', rfl⟩, fun x hx => by simp at hx; subst hx; rfl⟩
  | cp sz n f =>
    simp only [AV.cells] at h; injection h with h; subst h
    simp only [Den] at hd
    have := L.rd_one hd.1
    refine ⟨[u], ?_, by simp only [DenL, Den]; exact ⟨u, [], rfl, hd.1, rfl⟩, fun x hx => by simp at hx; subst hx; exact this⟩
    cases u <;> first | rfl | (simp [Value.oneCell'] at this)
  | lp i off =>
    simp only [AV.cells] at h; injection h with h; subst h
    have hd' := hd
    simp only [Den] at hd
    obtain ⟨_, b, _, rfl⟩ := hd
    exact ⟨[_], rfl, by simp only [DenL]; exact ⟨_, [], rfl, hd', rfl⟩, fun x hx => by simp at hx; subst hx; rfl⟩
  | fn f cap =>
    simp only [AV.cells] at h; injection h with h; subst h
    have hd' := hd
    simp only [Den] at hd
    obtain ⟨us, rfl, _⟩ := hd
    exact ⟨[_], rfl, by simp only [DenL]; exact ⟨_, [], rfl, hd', rfl⟩, fun x hx => by simp at hx; subst hx; rfl⟩
  | _ => simp [AV.cells] at h

theorem DenL.set : ∀ {as : List AV} {us : List Value} (o : Nat) {a : AV} {u : Value}, DenL σ I w as us → Den σ I w a u → DenL σ I w (as.set o a) (us.set o u)
  | [], us, o, a, u, h, _ => by simp only [DenL] at h; subst h; simp [DenL]
  | a0 :: as, us, 0, a, u, h, hu => by
    simp only [DenL] at h
    obtain ⟨u0, us', rfl, h1, h2⟩ := h
    simp only [List.set, DenL]
    exact ⟨_, _, rfl, hu, h2⟩
  | a0 :: as, us, o + 1, a, u, h, hu => by
    simp only [DenL] at h
    obtain ⟨u0, us', rfl, h1, h2⟩ := h
    simp only [List.set, DenL]
    exact ⟨_, _, rfl, h1, DenL.set o h2 hu⟩

theorem len_setMany : ∀ (cs l : List AV) (o : Nat), (setMany l o cs).length = l.length
  | [], l, o => rfl
  | a :: cs, l, o => by simp [setMany, len_setMany cs]

theorem setMany_sound : ∀ {cs : List AV} {vs : List Value} {l : List AV} {us : List Value} (o k : Nat), DenL σ I w cs vs → DenL σ I w l us → (∀ x ∈ us, x.oneCell' = true) → (∀ x ∈ vs, x.oneCell' = true) →
    ∃ us' : List Value, ((vs.zipIdx k).foldl (fun (cs : Array Value) (p : Value × Nat) => cs.setIfInBounds (o + p.2) p.1) us.toArray) = us'.toArray ∧ DenL σ I w (setMany l (o + k) cs) us' ∧ ∀ x ∈ us', x.oneCell' = true
  | [], vs, l, us, o, k, hc, hl, h1, h2 => by
    simp only [DenL] at hc; subst hc
    exact ⟨us, rfl, hl, h1⟩
  | a :: cs, vs, l, us, o, k, hc, hl, h1, h2 => by
    simp only [DenL] at hc
    obtain ⟨v, vs', rfl, e1, e2⟩ := hc
    simp only [List.zipIdx_cons, List.foldl_cons, setMany]
    rw [show us.toArray.setIfInBounds (o + k) v = (us.set (o + k) v).toArray from by simp]
    obtain ⟨us', g1, g2, g3⟩ := setMany_sound (l := l.set (o + k) a) (us := us.set (o + k) v) o (k + 1) e2 (hl.set (o + k) e1) (fun x hx => by
      rcases List.mem_or_eq_of_mem_set hx with hx | rfl
      · exact h1 x hx
      · exact h2 _ (by simp)) (fun x hx => h2 x (by simp [hx]))
    exact ⟨us', g1, g2, g3⟩

theorem fillP_sound (hT : TabOk P T) {fs : List (Nat × TypeId)} (pl : Nat → Option (Nat × Nat)) (hpl : ∀ (i off : Nat) (ft : TypeId) (x : TE), fs[i]? = some (off, ft) → tget T ft = some x → pl i = some (off, x.size)) :
    ∀ {parts : List (Nat × AV)} {us : List (Nat × Value)} {l r : List AV} {ul : List Value}, us.map (·.1) = parts.map (·.1) → (∀ (j : Nat) p, parts[j]? = some p → ∃ u, (us.map (·.2))[j]? = some u ∧ Den σ I w p.2 u) →
      DenL σ I w l ul → (∀ x ∈ ul, x.oneCell' = true) → fillP T fs l parts = some r → ∃ ur : List Value, Instr.fill pl ul.toArray us = some ur.toArray ∧ DenL σ I w r ur ∧ ∀ x ∈ ur, x.oneCell' = true
  | [], us, l, r, ul, he, hu, hl, h1, h => by
    simp at he; subst he
    simp only [fillP] at h; injection h with h; subst h
    exact ⟨ul, rfl, hl, h1⟩
  | (i, a) :: parts, us0, l, r, ul, he0, hu, hl, h1, h => by
    cases us0 with
    | nil => simp at he0
    | cons p us =>
      obtain ⟨i', u⟩ := p
      simp only [List.map_cons, List.cons.injEq] at he0
      obtain ⟨rfl, he⟩ := he0
      simp only [fillP] at h
      split at h
      · rename_i off ft cs hfs hcs
        split at h
        · rename_i x hx
          split at h
          · rename_i hsz
            obtain ⟨u', e1, e2⟩ := hu 0 _ rfl
            simp at e1; subst e1
            obtain ⟨vs, e3, e4, e5⟩ := AV.cells_sound hcs e2
            have hlv := e4.len
            obtain ⟨us', g1, g2, g3⟩ := setMany_sound off 0 e4 hl h1 e5
            obtain ⟨ur, k1, k2, k3⟩ := fillP_sound hT pl hpl he (fun j p e => by simpa using hu (j + 1) p (by simpa using e)) g2 g3 h
            refine ⟨ur, ?_, k2, k3⟩
            simp only [Instr.fill, hpl _ _ _ _ hfs hx, e3]
            have hl' := hl.len
            rw [if_neg (by simp; omega), ← k1]
            congr 1
            rw [← g1]
            simp
          · cases h
        · cases h
      · cases h

end
end Go.Proofs.YtjfnhehjhicnoaaDoor
