/-
  The machine's state, how it stands to a frame and a world, and the steps that make or write memory.
-/
import Derived.Test.YtjfnhehjhicnoaaDoorVmD
import Derived.OwnWalk
namespace Go.Proofs.YtjfnhehjhicnoaaDoor
open Go.RowKit

structure AS where
  fr : List (Nat × AV)
  obs : List OB

def fget : List (Nat × AV) → Nat → AV
  | [], _ => .top
  | (t', a) :: r, t => if t' = t then a else fget r t

def cstV : Value → AV
  | .agg cs => .agg (cs.toList.map fun u => .c (.v u))
  | .tuple _ => .top
  | v => .c (.v v)

def ev (S : AS) : Operand → AV
  | .tmp t => fget S.fr t
  | .const v => cstV v
  | .func f => .fn f []
  | .global _ => .top

def AS.put (S : AS) (d : Option Tmp) (a : AV) : AS :=
  match d with
  | some d => { S with fr := (d, a) :: S.fr }
  | none => S

def putT (tm : Array Value) (d : Option Tmp) (u : Value) : Array Value :=
  match d with
  | some t => tm.setIfInBounds t u
  | none => tm

/-- the constant's cells are single cells -/
def cstOk : Operand → Bool
  | .const (.agg cs) => cs.all fun u => u.oneCell'
  | .tmp t => Nat.blt t 1000000
  | _ => true

/-- what a call begins with: its world, the blocks that it may write, and what stands in the frame's ghost slots (from 1000000 on) -/
structure Env where
  w0 : World
  F : Nat → Prop
  gh : Nat → Value
  hF : ∀ b, w0.heap.size ≤ b → F b

def Env.tv (E : Env) (tm : Array Value) (t : Nat) : Value := if t < 1000000 then tm.getD t undef else E.gh (t - 1000000)

/-- nothing has turned but blocks of F -/
structure SameF (F : Nat → Prop) (w w' : World) : Prop where
  os : w'.os = w.os
  tape : w'.tape = w.tape
  output : w'.output = w.output
  size : w.heap.size ≤ w'.heap.size
  block : ∀ b, b < w.heap.size → ¬ F b → w'.heap[b]? = w.heap[b]?

theorem SameF.trans {F : Nat → Prop} {a b c : World} (h : SameF F a b) (k : Same b c) : SameF F a c :=
  ⟨k.os.trans h.os, k.tape.trans h.tape, k.output.trans h.output, Nat.le_trans h.size k.size, fun x hx hn => (k.block x (Nat.lt_of_lt_of_le hx h.size)).trans (h.block x hx hn)⟩
theorem SameF.refl (F : Nat → Prop) (w : World) : SameF F w w := ⟨rfl, rfl, rfl, Nat.le_refl _, fun _ _ _ => rfl⟩
theorem SameF.same {w w' : World} (h : SameF (fun b => w.heap.size ≤ b) w w') : Same w w' := ⟨h.os, h.tape, h.output, h.size, fun b hb => h.block b hb (by omega)⟩

structure Rel (w0 : Env) (I0 : Nat → Prop) (S : AS) (σ : Asg) (I : Nat → Prop) (tm : Array Value) (w : World) : Prop where
  same0 : SameF w0.F w0.w0 w
  st : Store σ I w w0.F S.obs
  fr : ∀ t, Den σ I w (fget S.fr t) (w0.tv tm t)
  i1 : ∀ b, I0 b → I b
  i2 : ∀ b, I b → I0 b ∨ w0.F b
  sz : tm.size ≤ 1000000

section
variable {w0 : Env} {w w' : World} {I0 I : Nat → Prop} {S : AS} {σ σ' : Asg} {tm : Array Value}

theorem tv_low {E : Env} {t : Nat} (h : t < 1000000) : E.tv tm t = tm.getD t undef := if_pos h

theorem Rel.hB (h : Rel w0 I0 S σ I tm w) : ∀ x, w.heap.size ≤ x → w0.F x := fun x hx => w0.hF x (Nat.le_trans h.same0.size hx)

theorem Rel.same (h : Rel w0 I0 S σ I tm w) (hw : Same w w') : Rel w0 I0 S σ I tm w' :=
  ⟨h.same0.trans hw, h.st.same hw, fun t => (h.fr t).mono (Asg.le_refl σ) (hw.keeps h.st.imm) (fun _ h => h), h.i1, h.i2, h.sz⟩

theorem Rel.put (h : Rel w0 I0 S σ I tm w) {d : Option Tmp} {a : AV} {u : Value} (hd : ∀ t, d = some t → t < tm.size) (hu : Den σ I w a u) :
    Rel w0 I0 (S.put d a) σ I (putT tm d u) w := by
  cases d with
  | none => exact h
  | some t =>
    have hts := hd t rfl
    have hsz := h.sz
    refine ⟨h.same0, h.st, fun t' => ?_, h.i1, h.i2, by simpa [putT] using hsz⟩
    simp only [AS.put, fget, putT]
    by_cases ht : t = t'
    · subst ht
      simp only [if_true]
      rw [tv_low (Nat.lt_of_lt_of_le hts hsz), show (tm.setIfInBounds t u).getD t undef = u from by simp [Array.getD, hts]]
      exact hu
    · rw [if_neg ht]
      have : w0.tv (tm.setIfInBounds t u) t' = w0.tv tm t' := by
        unfold Env.tv
        split
        · simp [Array.getElem?_setIfInBounds_ne ht]
        · rfl
      rw [this]
      exact h.fr t'

theorem ev_sound (h : Rel w0 I0 S σ I tm w) {a : Act} (ha : a.tmps = tm) (x : Operand) (hx : cstOk x = true) : Den σ I w (ev S x) (a.eval x) := by
  cases x with
  | tmp t =>
    have ht : t < 1000000 := by simpa only [cstOk, Nat.blt_eq] using hx
    have := h.fr t
    rw [tv_low ht] at this
    simp only [ev, Act.eval, ha]; exact this
  | const v =>
    simp only [ev, Act.eval]
    cases v <;> simp only [cstV, Den, L.rd, Value.oneCell', and_self]
    case agg cs =>
      refine ⟨cs.toList, by simp, ?_, fun x hx' => ?_⟩
      · have : ∀ l : List Value, (∀ u ∈ l, u.oneCell' = true) → DenL σ I w (l.map fun u => .c (.v u)) l := by
          intro l
          induction l with
          | nil => intro _; simp [DenL]
          | cons u l ih =>
            intro hl
            simp only [List.map_cons, DenL]
            exact ⟨u, l, rfl, by simp only [Den, L.rd]; exact ⟨trivial, hl u (by simp)⟩, ih fun v hv => hl v (by simp [hv])⟩
        refine this _ fun u hu => ?_
        simp only [cstOk] at hx
        exact Array.all_eq_true_iff_forall_mem.1 hx u (by simpa using hu)
      · simp only [cstOk] at hx
        have : x.oneCell' = true := Array.all_eq_true_iff_forall_mem.1 hx x (by simpa using hx')
        simpa only [Value.oneCell'] using this
  | func f => simp only [ev, Act.eval, Den]; exact ⟨[], rfl, by simp [DenL]⟩
  | global g => simp [ev, Den]

/-- one object more -/
def Asg.ext (σ : Asg) (b : Option Nat) (v : Value) : Asg := ⟨σ.cnt + 1, fun i => if i = σ.cnt then b else σ.blk i, fun i => if i = σ.cnt then v else σ.hdr i, fun i => if i = σ.cnt then [] else σ.sub i⟩
theorem Asg.le_ext (σ : Asg) (b : Option Nat) (v : Value) : σ.le (σ.ext b v) :=
  ⟨Nat.le_succ _, fun i hi => by simp only [Asg.ext]; rw [if_neg (by omega)], fun i hi => by simp only [Asg.ext]; rw [if_neg (by omega)], fun i hi => by simp only [Asg.ext]; rw [if_neg (by omega)]⟩
theorem Asg.ext_has {σ : Asg} {b : Option Nat} {v : Value} {i x : Nat} (hi : i = σ.cnt) : (σ.ext b v).has i x ↔ b = some x := by
  subst hi
  simp [Asg.has, Asg.ext]

theorem Store.snoc {B : Nat → Prop} {obs : List OB} (h : Store σ I w B obs) (hw : Same w w') {b : Option Nat} {v : Value} {o : OB} (hB : ∀ x, w.heap.size ≤ x → B x)
    (hb : ∀ x, b = some x → w.heap.size ≤ x ∧ x < w'.heap.size) (ho : ObjRel (σ.ext b v) I w' σ.cnt o) : Store (σ.ext b v) I w' B (obs ++ [o]) := by
  have hs := h.same hw
  have hle := Asg.le_ext σ b v
  have hasOld : ∀ i x, i < obs.length → ((σ.ext b v).has i x ↔ σ.has i x) := fun i x hi => hle.has (by rw [h.cnt]; exact hi)
  have hasNew : ∀ x, (σ.ext b v).has obs.length x ↔ b = some x := fun x => Asg.ext_has h.cnt.symm
  have at_ : ∀ (i : Nat) o', (obs ++ [o])[i]? = some o' → (i < obs.length ∧ obs[i]? = some o') ∨ (i = obs.length ∧ o' = o) := fun i o' e => by
    by_cases hi : i < obs.length
    · rw [List.getElem?_append_left hi] at e; exact .inl ⟨hi, e⟩
    · rw [List.getElem?_append_right (by omega)] at e
      have : i - obs.length = 0 := by
        rcases Nat.eq_zero_or_pos (i - obs.length) with h0 | h0
        · exact h0
        · rw [List.getElem?_eq_none (by simp; omega)] at e; cases e
      rw [this] at e
      simp at e
      exact .inr ⟨by omega, e.symm⟩
  refine ⟨by simp [Asg.ext, h.cnt], hs.imm, fun i o' e => ?_, fun i o' x e hl ex => ?_, fun i j oi oj x ei ej li lj exi exj => ?_⟩
  · rcases at_ i o' e with ⟨hi, e'⟩ | ⟨rfl, rfl⟩
    · exact (hs.obj i o' e').mono hle (by rw [h.cnt]; exact hi) (Keeps.refl I w') (fun _ h => h) (fun _ _ => rfl)
    · rw [← h.cnt]; exact ho
  · rcases at_ i o' e with ⟨hi, e'⟩ | ⟨rfl, rfl⟩
    · rw [hasOld i x hi] at ex
      exact hs.freshH i o' x e' hl ex
    · rw [hasNew] at ex
      obtain ⟨h1, h2⟩ := hb x ex
      exact ⟨hB x h1, fun hI => by have := h.imm x hI; omega, h2⟩
  · rcases at_ i oi ei with ⟨hi, ei'⟩ | ⟨rfl, rfl⟩ <;> rcases at_ j oj ej with ⟨hj, ej'⟩ | ⟨rfl, rfl⟩
    · rw [hasOld i x hi] at exi
      rw [hasOld j x hj] at exj
      exact h.injH i j oi oj x ei' ej' li lj exi exj
    · rw [hasOld i x hi] at exi
      rw [hasNew] at exj
      have h1 := (h.freshH i oi x ei' li exi).2.2
      have h2 := (hb x exj).1
      omega
    · rw [hasOld j x hj] at exj
      rw [hasNew] at exi
      have h1 := (h.freshH j oj x ej' lj exj).2.2
      have h2 := (hb x exi).1
      omega
    · rfl

theorem Rel.snoc (h : Rel w0 I0 S σ I tm w) (hw : Same w w') {b : Option Nat} {v : Value} {o : OB} (hb : ∀ x, b = some x → w.heap.size ≤ x ∧ x < w'.heap.size) (ho : ObjRel (σ.ext b v) I w' σ.cnt o) :
    Rel w0 I0 { S with obs := S.obs ++ [o] } (σ.ext b v) I tm w' :=
  ⟨h.same0.trans hw, h.st.snoc hw h.hB hb ho, fun t => (h.fr t).mono (Asg.le_ext σ b v) (hw.keeps h.st.imm) (fun _ h => h), h.i1, h.i2, h.sz⟩

/-- an object that is written anew, its block as it is -/
theorem Store.updH {B : Nat → Prop} {obs : List OB} (h : Store σ I w B obs) {i b : Nat} {o o' : OB} (ho : obs[i]? = some o) (hl : o.live = true) (hb : σ.has i b)
    (hsz : w.heap.size ≤ w'.heap.size) (hkeep : ∀ x, x < w.heap.size → x ≠ b → w'.heap[x]? = w.heap[x]?) (ho' : ObjRel σ I w' i o') : Store σ I w' B (obs.set i o') := by
  have hkI : Keeps I w w' := fun x hx => hkeep x (h.imm x hx) (fun e => (h.freshH i o b ho hl hb).2.1 (e ▸ hx))
  have hilt : i < obs.length := (List.getElem?_eq_some_iff.1 ho).1
  have at_ : ∀ (j : Nat) oj, (obs.set i o')[j]? = some oj → (j = i ∧ oj = o') ∨ (j ≠ i ∧ obs[j]? = some oj) := fun j oj e => by
    by_cases hj : j = i
    · subst hj
      rw [List.getElem?_set_self hilt] at e
      injection e with e
      exact .inl ⟨rfl, e.symm⟩
    · rw [List.getElem?_set_ne (fun e => hj e.symm)] at e
      exact .inr ⟨hj, e⟩
  refine ⟨by simpa using h.cnt, fun x hx => Nat.lt_of_lt_of_le (h.imm x hx) hsz, fun j oj e => ?_, fun j oj x e hlj ex => ?_, fun j k oj ok x ej ek lj lk exj exk => ?_⟩
  · rcases at_ j oj e with ⟨rfl, rfl⟩ | ⟨hj, e'⟩
    · exact ho'
    · by_cases hlj : oj.live = true
      · refine (h.obj j oj e').mono (Asg.le_refl σ) (by rw [h.cnt]; exact (List.getElem?_eq_some_iff.1 e').1) hkI (fun _ h => h) fun x hx => ?_
        exact hkeep x (h.freshH j oj x e' hlj hx).2.2 (fun ex => hj (h.injH j i oj o x e' ho hlj hl hx (ex ▸ hb)))
      · cases oj with
        | dead => trivial
        | box => exact absurd rfl hlj
        | row => exact absurd rfl hlj
        | arr => exact absurd rfl hlj
        | keys => exact absurd rfl hlj
        | bld => exact absurd rfl hlj
        | grid => exact absurd rfl hlj
  · rcases at_ j oj e with ⟨rfl, rfl⟩ | ⟨hj, e'⟩
    · have := h.freshH j o x ho hl ex
      exact ⟨this.1, this.2.1, Nat.lt_of_lt_of_le this.2.2 hsz⟩
    · have := h.freshH j oj x e' hlj ex
      exact ⟨this.1, this.2.1, Nat.lt_of_lt_of_le this.2.2 hsz⟩
  · rcases at_ j oj ej with ⟨rfl, rfl⟩ | ⟨hj, ej'⟩ <;> rcases at_ k ok ek with ⟨rfl, rfl⟩ | ⟨hk, ek'⟩
    · rfl
    · exact h.injH j k o ok x ho ek' hl lk exj exk
    · exact h.injH j k oj o x ej' ho lj hl exj exk
    · exact h.injH j k oj ok x ej' ek' lj lk exj exk

theorem Rel.updH (h : Rel w0 I0 S σ I tm w) {i b : Nat} {o o' : OB} (ho : S.obs[i]? = some o) (hl : o.live = true) (hb : σ.has i b) (hos : w'.os = w.os) (htape : w'.tape = w.tape) (hout : w'.output = w.output)
    (hsz : w.heap.size ≤ w'.heap.size) (hkeep : ∀ x, x < w.heap.size → x ≠ b → w'.heap[x]? = w.heap[x]?) (ho' : ObjRel σ I w' i o') : Rel w0 I0 { S with obs := S.obs.set i o' } σ I tm w' := by
  have hB := (h.st.freshH i o b ho hl hb).1
  have hkI : Keeps I w w' := fun x hx => hkeep x (h.st.imm x hx) (fun e => (h.st.freshH i o b ho hl hb).2.1 (e ▸ hx))
  exact ⟨⟨hos.trans h.same0.os, htape.trans h.same0.tape, hout.trans h.same0.output, Nat.le_trans h.same0.size hsz, fun x hx hn => (hkeep x (Nat.lt_of_lt_of_le hx h.same0.size) (fun e => hn (e ▸ hB))).trans (h.same0.block x hx hn)⟩,
    h.st.updH ho hl hb hsz hkeep ho', fun t => (h.fr t).mono (Asg.le_refl σ) hkI (fun _ h => h), h.i1, h.i2, h.sz⟩

theorem Store.upd {B : Nat → Prop} {obs : List OB} (h : Store σ I w B obs) {i b : Nat} {o o' : OB} (ho : obs[i]? = some o) (hl : o.live = true) (hb : σ.blk i = some b)
    (hsz : w.heap.size ≤ w'.heap.size) (hkeep : ∀ x, x < w.heap.size → x ≠ b → w'.heap[x]? = w.heap[x]?) (ho' : ObjRel σ I w' i o') : Store σ I w' B (obs.set i o') := h.updH ho hl (.inl hb) hsz hkeep ho'
theorem Rel.upd (h : Rel w0 I0 S σ I tm w) {i b : Nat} {o o' : OB} (ho : S.obs[i]? = some o) (hl : o.live = true) (hb : σ.blk i = some b) (hos : w'.os = w.os) (htape : w'.tape = w.tape) (hout : w'.output = w.output)
    (hsz : w.heap.size ≤ w'.heap.size) (hkeep : ∀ x, x < w.heap.size → x ≠ b → w'.heap[x]? = w.heap[x]?) (ho' : ObjRel σ I w' i o') : Rel w0 I0 { S with obs := S.obs.set i o' } σ I tm w' :=
  h.updH ho hl (.inl hb) hos htape hout hsz hkeep ho'

/-- objects that are given up: their blocks are written no more -/
def killL (obs : List OB) (ids : List Nat) : List OB := ids.foldl (fun o i => o.set i .dead) obs

theorem killL_get : ∀ (ids : List Nat) (obs : List OB) (i : Nat), (killL obs ids)[i]? = if i ∈ ids then obs[i]?.map (fun _ => OB.dead) else obs[i]?
  | [], obs, i => by simp [killL]
  | j :: ids, obs, i => by
    have := killL_get ids (obs.set j .dead) i
    simp only [killL, List.foldl_cons] at this ⊢
    rw [this]
    by_cases hij : i = j
    · subst hij
      by_cases hi : i < obs.length
      · simp [hi]
      · simp [hi]
    · rw [List.getElem?_set_ne (fun e => hij e.symm)]
      simp [hij]

theorem killL_len (ids : List Nat) : ∀ (obs : List OB), (killL obs ids).length = obs.length := by
  induction ids with
  | nil => intro obs; rfl
  | cons j ids ih => intro obs; simp only [killL, List.foldl_cons] at ih ⊢; rw [ih]; simp

/-- I, and the blocks of the objects that are given up -/
def frozenI (σ : Asg) (I : Nat → Prop) (obs : List OB) (ids : List Nat) : Nat → Prop := fun b => I b ∨ ∃ i ∈ ids, ∃ o, obs[i]? = some o ∧ o.live = true ∧ σ.blk i = some b

theorem Store.kill {B : Nat → Prop} {obs : List OB} (h : Store σ I w B obs) (ids : List Nat) : Store σ (frozenI σ I obs ids) w B (killL obs ids) := by
  have at_ : ∀ (j : Nat) oj, (killL obs ids)[j]? = some oj → oj = .dead ∨ (j ∉ ids ∧ obs[j]? = some oj) := fun j oj e => by
    rw [killL_get] at e
    by_cases hj : j ∈ ids
    · rw [if_pos hj] at e
      simp only [Option.map_eq_some_iff] at e
      obtain ⟨_, _, e⟩ := e
      exact .inl e.symm
    · rw [if_neg hj] at e
      exact .inr ⟨hj, e⟩
  refine ⟨by rw [killL_len]; exact h.cnt, fun b hb => ?_, fun j oj e => ?_, fun j oj x e hl ex => ?_, fun j k oj ok x ej ek lj lk exj exk => ?_⟩
  · rcases hb with hb | ⟨i, _, o, e, hl, hb⟩
    · exact h.imm b hb
    · exact (h.fresh i o b e hl hb).2.2
  · rcases at_ j oj e with rfl | ⟨_, e'⟩
    · trivial
    · exact (h.obj j oj e').mono (Asg.le_refl σ) (by rw [h.cnt]; exact (List.getElem?_eq_some_iff.1 e').1) (Keeps.refl I w) (fun _ h => .inl h) (fun _ _ => rfl)
  · rcases at_ j oj e with rfl | ⟨hj, e'⟩
    · cases hl
    · have := h.freshH j oj x e' hl ex
      refine ⟨this.1, ?_, this.2.2⟩
      rintro (hI | ⟨i, hi, o, e2, hl2, hb2⟩)
      · exact this.2.1 hI
      · have := h.injH j i oj o x e' e2 hl hl2 ex (.inl hb2)
        exact hj (this ▸ hi)
  · rcases at_ j oj ej with rfl | ⟨_, ej'⟩
    · cases lj
    · rcases at_ k ok ek with rfl | ⟨_, ek'⟩
      · cases lk
      · exact h.injH j k oj ok x ej' ek' lj lk exj exk

theorem Rel.kill (h : Rel w0 I0 S σ I tm w) (ids : List Nat) : Rel w0 I0 { S with obs := killL S.obs ids } σ (frozenI σ I S.obs ids) tm w :=
  ⟨h.same0, h.st.kill ids, fun t => (h.fr t).mono (Asg.le_refl σ) (Keeps.refl I w) (fun _ h => .inl h), fun b hb => .inl (h.i1 b hb), fun b hb => by
    rcases hb with hb | ⟨i, _, o, e, hl, hb⟩
    · exact h.i2 b hb
    · exact .inr (h.st.fresh i o b e hl hb).1, h.sz⟩

def cellL (obs : List OB) : AV → Option L
  | .c l => some l
  | .own i => match obs[i]? with
    | some (.row _ sz n _ f) => some (.sl sz n f)
    | _ => none
  | .ov i sz lo n => match obs[i]? with
    | some (.row _ sz' _ _ f) => if sz' = sz then some (.sl sz n fun k j => f (lo + k) j) else none
    | _ => none
  | _ => none
def boxL (obs : List OB) : List AV → Option (List L)
  | [] => some []
  | a :: r => match cellL obs a, boxL obs r with
    | some l, some ls => some (l :: ls)
    | _, _ => none
def cellIds : List AV → List Nat
  | [] => []
  | .own i :: r => i :: cellIds r
  | .ov i _ _ _ :: r => i :: cellIds r
  | _ :: r => cellIds r

mutual
/-- what a value reads as when nobody writes its objects any more -/
def frz (obs : List OB) : AV → AV
  | .own i => match obs[i]? with
    | some (.row _ sz n _ f) => .c (.sl sz n f)
    | _ => .top
  | .lp i off => match obs[i]? with
    | some (.box cs) => match boxL obs cs with
      | some ls => .xp (ls.length - off) fun j => (ls[off + j]?).getD .un
      | none => .top
    | _ => .top
  | .agg cs => .agg (frzL obs cs)
  | .tup cs => .tup (frzL obs cs)
  | .fn f cap => .fn f (frzL obs cap)
  | .gd _ _ => .top
  | .rp .. => .top
  | .top => .top
  | .c l => .c l
  | .xp n f => .xp n f
  | .ov i sz lo n => match obs[i]? with
    | some (.row _ sz' _ _ f) => if sz' = sz then .c (.sl sz n fun k j => f (lo + k) j) else .top
    | _ => .top
  | .cp sz n f => .c (.sl sz n f)
  | .gh _ => .top
  | .av n f => .av n f
  | .gt g cs => .gt g cs
  | .sb i n => match obs[i]? with
    | some (.box cs) => match boxL obs cs with
      | some ls => if ls.length = n then .c (.sl 1 n fun k _ => (ls[k]?).getD .un) else .top
      | none => .top
    | _ => .top
  | .gr .. => .top
  | .gp .. => .top
def frzL (obs : List OB) : List AV → List AV
  | [] => []
  | a :: r => frz obs a :: frzL obs r
end
mutual
def idsOf (obs : List OB) : AV → List Nat
  | .own i => [i]
  | .lp i _ => i :: (match obs[i]? with | some (.box cs) => cellIds cs | _ => [])
  | .agg cs => idsL obs cs
  | .tup cs => idsL obs cs
  | .fn _ cap => idsL obs cap
  | .ov i _ _ _ => [i]
  | .sb i _ => i :: (match obs[i]? with | some (.box cs) => cellIds cs | _ => [])
  | _ => []
def idsL (obs : List OB) : List AV → List Nat
  | [] => []
  | a :: r => idsOf obs a ++ idsL obs r
end

theorem row_sl {J : Nat → Prop} {B : Nat → Prop} {obs : List OB} (h : Store σ I w B obs) {i : Nat} {e sz n : Nat} {sc : Bool} {f : Nat → Nat → L} (ho : obs[i]? = some (.row e sz n sc f)) (hI : ∀ b, I b → J b) (hi : ∀ b, σ.blk i = some b → J b) :
    L.rd w J (.sl sz n f) (σ.hdr i) := by
  have hr := (h.obj i _ ho).1
  simp only [L.rd]
  rcases Nat.eq_zero_or_pos n with h0 | h0
  · obtain ⟨A, cap, e1, e2, e3⟩ := hr.len
    exact ⟨A, cap, e1, e2, e3, fun h => by omega⟩
  · obtain ⟨g, cap, cur, xs, hh, hb, _, hnc, hcm, _, _, _, _, h2, hc⟩ := hr.at h0
    refine ⟨_, cap, hh, hnc, hcm, fun _ => ⟨_, rfl, hi g hb, fun k hk j hj => ?_⟩⟩
    obtain ⟨c, e1, e2⟩ := h2 k hk j hj
    refine ⟨c, ?_, L.rd_mono (Keeps.refl I w) hI e2⟩
    rw [add_lit, Nat.zero_add]
    exact hc _ _ e1

theorem ov_sl {J : Nat → Prop} {B : Nat → Prop} {obs : List OB} (h : Store σ I w B obs) {i : Nat} {e sz lo n n' : Nat} {sc : Bool} {f : Nat → Nat → L} (ho : obs[i]? = some (.row e sz n' sc f)) (hI : ∀ b, I b → J b) (hi : ∀ b, σ.blk i = some b → J b) {u : Value}
    (hd : Den σ I w (.ov i sz lo n) u) : L.rd w J (.sl sz n fun k j => f (lo + k) j) u := by
  have hr := (h.obj i _ ho).1
  simp only [Den] at hd
  simp only [L.rd]
  obtain ⟨_, A, cap, rfl, h1, h2, h3⟩ := hd
  refine ⟨A, cap, rfl, h1, h2, fun hn => ?_⟩
  obtain ⟨b, m, C, q1, rfl, q3, _⟩ := h3 (by clear h3; omega)
  clear h3
  obtain ⟨A', C', e1, _⟩ := hr.len
  rw [q1] at e1
  injection e1 with _ e1 _
  obtain ⟨g, cap', cur, xs, hh, hb, _, _, _, _, _, _, _, h2', hc⟩ := hr.at (by omega)
  rw [q1] at hh
  injection hh with hh
  injection hh with hh
  injection hh with hh
  subst hh
  refine ⟨_, rfl, hi b hb, fun k hk j hj => ?_⟩
  obtain ⟨c, e1, e2⟩ := h2' (lo + k) (by omega) j hj
  refine ⟨c, ?_, L.rd_mono (Keeps.refl I w) hI e2⟩
  rw [add_lit, ← Nat.add_assoc, ← Nat.add_mul]
  exact hc _ _ e1

theorem cellL_sound {J : Nat → Prop} {B : Nat → Prop} {obs : List OB} (h : Store σ I w B obs) (hI : ∀ b, I b → J b) : ∀ {cs : List AV} {us : List Value} {ls : List L}, boxL obs cs = some ls → (∀ i ∈ cellIds cs, ∀ o b, obs[i]? = some o → o.live = true → σ.blk i = some b → J b) → DenL σ I w cs us →
    us.length = ls.length ∧ ∀ (j : Nat) l, ls[j]? = some l → ∃ u, us[j]? = some u ∧ l.rd w J u
  | [], us, ls, hb, _, hd => by
    simp only [boxL] at hb; injection hb with hb; subst hb
    simp only [DenL] at hd; subst hd
    exact ⟨rfl, fun j l e => by simp at e⟩
  | a :: cs, us, ls, hb, hi, hd => by
    simp only [DenL] at hd
    obtain ⟨u, us', rfl, h1, h2⟩ := hd
    simp only [boxL] at hb
    split at hb
    · rename_i l ls' hl hls
      injection hb with hb; subst hb
      have hsub : ∀ i ∈ cellIds cs, i ∈ cellIds (a :: cs) := fun i hmem => by
        cases a <;> first | exact hmem | exact List.mem_cons_of_mem _ hmem
      obtain ⟨g1, g2⟩ := cellL_sound h hI hls (fun i hi' => hi i (hsub i hi')) h2
      have hu : l.rd w J u := by
        cases a with
        | c l' =>
          simp only [cellL] at hl; injection hl with hl; subst hl
          simp only [Den] at h1
          exact L.rd_mono (Keeps.refl I w) hI h1
        | own i =>
          simp only [cellL] at hl
          split at hl
          · rename_i e sz n sc f ho
            injection hl with hl; subst hl
            simp only [Den] at h1
            rw [h1.2.1]
            exact row_sl h ho hI fun b hb => hi i (by simp [cellIds]) _ b ho rfl hb
          · cases hl
        | ov i sz lo n =>
          simp only [cellL] at hl
          split at hl
          · rename_i e sz' n' sc f ho
            split at hl
            · rename_i hsz
              subst hsz
              injection hl with hl; subst hl
              exact ov_sl h ho hI (fun b hb => hi i (by simp [cellIds]) _ b ho rfl hb) h1
            · cases hl
          · cases hl
        | _ => simp [cellL] at hl
      refine ⟨by simp [g1], fun j l' e => ?_⟩
      cases j with
      | zero => simp at e; subst e; exact ⟨u, rfl, hu⟩
      | succ j => simpa using g2 j l' (by simpa using e)
    · cases hb

mutual
theorem frz_sound {J : Nat → Prop} {B : Nat → Prop} {obs : List OB} (τ : Asg) (h : Store σ I w B obs) (hI : ∀ b, I b → J b) : ∀ {a : AV} {u : Value}, (∀ i ∈ idsOf obs a, ∀ o b, obs[i]? = some o → o.live = true → σ.blk i = some b → J b) → Den σ I w a u → Den τ J w (frz obs a) u
  | .own i, u, hi, hd => by
    simp only [frz]
    split
    · rename_i e sz n sc f ho
      simp only [Den] at hd ⊢
      rw [hd.2.1]
      exact row_sl h ho hI fun b hb => hi i (by simp [idsOf]) _ b ho rfl hb
    · trivial
  | .lp i off, u, hi, hd => by
    simp only [frz]
    split
    · rename_i cs ho
      split
      · rename_i ls hls
        simp only [Den] at hd ⊢
        obtain ⟨_, b, hb, rfl⟩ := hd
        obtain ⟨b', us, ty, hb', hh, hdl, h1c⟩ := h.obj i _ ho
        rw [hb] at hb'; injection hb' with hb'; subst hb'
        obtain ⟨g1, g2⟩ := cellL_sound h hI hls (fun k hk => hi k (by simp only [idsOf, ho]; simp [hk])) hdl
        refine ⟨_, rfl, hi i (by simp [idsOf]) _ b ho rfl hb, fun j hj => ?_⟩
        obtain ⟨u, e1, e2⟩ := g2 (off + j) ls[off + j] (List.getElem?_eq_getElem (by omega))
        refine ⟨u, ?_, by rw [List.getElem?_eq_getElem (by omega)]; exact e2⟩
        rw [add_lit, cell_at hh]
        simpa using e1
      · trivial
    · trivial
  | .sb i n, u, hi, hd => by
    simp only [frz]
    split
    · rename_i cs ho
      split
      · rename_i ls hls
        split
        · rename_i hlen
          simp only [Den] at hd ⊢
          obtain ⟨_, b, hb, rfl, hn⟩ := hd
          obtain ⟨b', us, ty, hb', hh, hdl, h1c⟩ := h.obj i _ ho
          rw [hb] at hb'; injection hb' with hb'; subst hb'
          obtain ⟨g1, g2⟩ := cellL_sound h hI hls (fun k hk => hi k (by simp only [idsOf, ho]; simp [hk])) hdl
          simp only [L.rd]
          refine ⟨_, _, rfl, Nat.le_refl _, hn, fun _ => ⟨_, rfl, hi i (by simp [idsOf]) _ b ho rfl hb, fun k hk j hj => ?_⟩⟩
          obtain rfl : j = 0 := by omega
          obtain ⟨u, e1, e2⟩ := g2 k ls[k] (List.getElem?_eq_getElem (by omega))
          refine ⟨u, ?_, by rw [List.getElem?_eq_getElem (by omega)]; exact e2⟩
          rw [add_lit, cell_at hh]
          simpa using e1
        · simp only [Den]
      · simp only [Den]
    · simp only [Den]
  | .agg cs, u, hi, hd => by
    simp only [frz, Den] at hd ⊢
    obtain ⟨us, e, h1, h2⟩ := hd
    exact ⟨us, e, frzL_sound τ h hI (fun i hi' => hi i (by simpa only [idsOf] using hi')) h1, h2⟩
  | .tup cs, u, hi, hd => by
    simp only [frz, Den] at hd ⊢
    obtain ⟨us, e, h1⟩ := hd
    exact ⟨us, e, frzL_sound τ h hI (fun i hi' => hi i (by simpa only [idsOf] using hi')) h1⟩
  | .fn f cs, u, hi, hd => by
    simp only [frz, Den] at hd ⊢
    obtain ⟨us, e, h1⟩ := hd
    exact ⟨us, e, frzL_sound τ h hI (fun i hi' => hi i (by simpa only [idsOf] using hi')) h1⟩
  | .gd _ _, u, _, _ => by simp only [frz, Den]
  | .ov i sz lo n, u, hi, hd => by
    simp only [frz]
    split
    · rename_i e sz' n' sc f ho
      split
      · rename_i hsz
        subst hsz
        have := ov_sl h ho hI (fun b hb => hi i (by simp [idsOf]) _ b ho rfl hb) hd
        simp only [Den]
        exact this
      · trivial
    · trivial
  | .cp sz n f, u, _, hd => by
    simp only [frz, Den] at hd ⊢
    exact L.rd_mono (Keeps.refl I w) hI hd.1
  | .gh _, u, _, _ => by simp only [frz, Den]
  | .av n f, u, _, hd => by
    simp only [frz, Den] at hd ⊢
    obtain ⟨us, e, h1, h2⟩ := hd
    exact ⟨us, e, h1, fun j hj => by
      obtain ⟨c, e1, e2⟩ := h2 j hj
      exact ⟨c, e1, L.rd_mono (Keeps.refl I w) hI e2⟩⟩
  | .gt g cs, u, _, hd => by
    simp only [frz, Den] at hd ⊢
    exact ⟨hI _ hd.1, hd.2⟩
  | .rp .., u, _, _ => by simp only [frz, Den]
  | .gr .., u, _, _ => by simp only [frz, Den]
  | .gp .., u, _, _ => by simp only [frz, Den]
  | .top, u, _, _ => by simp only [frz, Den]
  | .c l, u, _, hd => by
    simp only [frz, Den] at hd ⊢
    exact L.rd_mono (Keeps.refl I w) hI hd
  | .xp n f, u, _, hd => by
    simp only [frz, Den] at hd ⊢
    obtain ⟨a, e, hb, hc⟩ := hd
    exact ⟨a, e, hI _ hb, fun j hj => by
      obtain ⟨c, e1, e2⟩ := hc j hj
      exact ⟨c, e1, L.rd_mono (Keeps.refl I w) hI e2⟩⟩
theorem frzL_sound {J : Nat → Prop} {B : Nat → Prop} {obs : List OB} (τ : Asg) (h : Store σ I w B obs) (hI : ∀ b, I b → J b) : ∀ {as : List AV} {us : List Value}, (∀ i ∈ idsL obs as, ∀ o b, obs[i]? = some o → o.live = true → σ.blk i = some b → J b) → DenL σ I w as us → DenL τ J w (frzL obs as) us
  | [], us, _, hd => by simp only [frzL, DenL] at hd ⊢; exact hd
  | a :: as, us, hi, hd => by
    simp only [frzL, DenL] at hd ⊢
    obtain ⟨u, us', e, h1, h2⟩ := hd
    exact ⟨u, us', e, frz_sound τ h hI (fun i hi' => hi i (by simp only [idsL, List.mem_append]; exact .inl hi')) h1, frzL_sound τ h hI (fun i hi' => hi i (by simp only [idsL, List.mem_append]; exact .inr hi')) h2⟩
end

end
/- forcing: the same value, its outer shape written out (so that a walk by reduction stays small) -/
def forceV : Value → (Value → Prop) → Prop
  | .int k n, f => f (.int k n)
  | .bool b, f => f (.bool b)
  | .string s, f => f (.string s)
  | .slice a n c, f => f (.slice a n c)
  | v, f => f v
def forceL : L → (L → Prop) → Prop
  | .v x, f => forceV x fun x' => f (.v x')
  | .un, f => f .un
  | .sl sz n g, f => f (.sl sz n g)
def forceN : Nat → (Nat → Prop) → Prop
  | 0, f => f 0
  | n + 1, f => forceN n fun m => f (m + 1)

mutual
def forceA : AV → (AV → Prop) → Prop
  | .c l, f => forceL l fun l' => f (.c l')
  | .agg cs, f => forceAL cs fun cs' => f (.agg cs')
  | .tup cs, f => forceAL cs fun cs' => f (.tup cs')
  | .top, f => f .top
  | .xp n g, f => f (.xp n g)
  | .lp i o, f => forceN i fun i' => forceN o fun o' => f (.lp i' o')
  | .rp i sz k j, f => f (.rp i sz k j)
  | .ov i sz lo n, f => f (.ov i sz lo n)
  | .cp sz n g, f => f (.cp sz n g)
  | .gh i, f => forceN i fun i' => f (.gh i')
  | .av n g, f => f (.av n g)
  | .gt g cs, f => f (.gt g cs)
  | .sb i n, f => forceN i fun i' => forceN n fun n' => f (.sb i' n')
  | .gr i k m, f => forceN i fun i' => f (.gr i' k m)
  | .gp i k j, f => forceN i fun i' => f (.gp i' k j)
  | .own i, f => forceN i fun i' => f (.own i')
  | .fn g cs, f => forceAL cs fun cs' => f (.fn g cs')
  | .gd b a, f => forceA a fun a' => f (.gd b a')
def forceAL : List AV → (List AV → Prop) → Prop
  | [], f => f []
  | a :: r, f => forceA a fun a' => forceAL r fun r' => f (a' :: r')
end
def forceB : Bool → (Bool → Prop) → Prop
  | true, f => f true
  | false, f => f false
def forceO : OB → (OB → Prop) → Prop
  | .dead, f => f .dead
  | .box cs, f => forceAL cs fun cs' => f (.box cs')
  | .row e sz n sc g, f => forceB sc fun sc' => f (.row e sz n sc' g)
  | .arr sz n sc g, f => forceB sc fun sc' => f (.arr sz n sc' g)
  | .keys ks, f => f (.keys ks)
  | .bld T e b l, f => f (.bld T e b l)
  | .grid e n m g, f => f (.grid e n m g)
def forceOL : List OB → (List OB → Prop) → Prop
  | [], f => f []
  | o :: r, f => forceO o fun o' => forceOL r fun r' => f (o' :: r')
def forceF : List (Nat × AV) → (List (Nat × AV) → Prop) → Prop
  | [], f => f []
  | (t, a) :: r, f => forceF r fun r' => f ((t, a) :: r')
def forceS : AS → (AS → Prop) → Prop
  | ⟨fr, obs⟩, f => match fr with
    | [] => forceOL obs fun obs' => f ⟨[], obs'⟩
    | (t, a) :: r => forceA a fun a' => forceF r fun r' => forceOL obs fun obs' => f ⟨(t, a') :: r', obs'⟩
def putK : AS → Option Tmp → AV → (AS → Prop) → Prop
  | ⟨fr, obs⟩, some d, a, f => f ⟨(d, a) :: fr, obs⟩
  | ⟨fr, obs⟩, none, _, f => f ⟨fr, obs⟩

theorem forceV_eq (v : Value) (f : Value → Prop) : forceV v f = f v := by cases v <;> rfl
theorem forceL_eq (l : L) (f : L → Prop) : forceL l f = f l := by
  cases l with
  | v x => exact forceV_eq x _
  | un => rfl
  | sl => rfl
theorem forceN_eq : ∀ (n : Nat) (f : Nat → Prop), forceN n f = f n
  | 0, _ => rfl
  | n + 1, f => by simp only [forceN, forceN_eq n]

mutual
theorem forceA_eq : ∀ (a : AV) (f : AV → Prop), forceA a f = f a
  | .c l, f => by simp only [forceA]; exact forceL_eq l _
  | .agg cs, f => by simp only [forceA]; exact forceAL_eq cs _
  | .tup cs, f => by simp only [forceA]; exact forceAL_eq cs _
  | .top, f => rfl
  | .xp .., f => rfl
  | .lp i o, f => by simp only [forceA, forceN_eq]
  | .rp .., f => rfl
  | .ov .., f => rfl
  | .cp .., f => rfl
  | .gh i, f => by simp only [forceA, forceN_eq]
  | .av .., f => rfl
  | .gt .., f => rfl
  | .sb i n, f => by simp only [forceA, forceN_eq]
  | .gr i k m, f => by simp only [forceA, forceN_eq]
  | .gp i k m, f => by simp only [forceA, forceN_eq]
  | .own i, f => by simp only [forceA, forceN_eq]
  | .fn g cs, f => by simp only [forceA]; exact forceAL_eq cs _
  | .gd b a, f => by simp only [forceA]; exact forceA_eq a _
theorem forceAL_eq : ∀ (as : List AV) (f : List AV → Prop), forceAL as f = f as
  | [], f => rfl
  | a :: r, f => by simp only [forceAL, forceA_eq a, forceAL_eq r]
end
theorem forceB_eq (b : Bool) (f : Bool → Prop) : forceB b f = f b := by cases b <;> rfl
theorem forceO_eq (o : OB) (f : OB → Prop) : forceO o f = f o := by
  cases o with
  | dead => rfl
  | box cs => exact forceAL_eq cs _
  | row e sz n sc g => exact forceB_eq sc _
  | arr sz n sc g => exact forceB_eq sc _
  | keys ks => rfl
  | bld => rfl
  | grid e n m g => rfl
theorem forceOL_eq : ∀ (os : List OB) (f : List OB → Prop), forceOL os f = f os
  | [], f => rfl
  | o :: r, f => by simp only [forceOL, forceO_eq o, forceOL_eq r]
theorem forceF_eq : ∀ (os : List (Nat × AV)) (f : List (Nat × AV) → Prop), forceF os f = f os
  | [], f => rfl
  | (t, a) :: r, f => by simp only [forceF, forceF_eq r]
theorem forceS_eq (S : AS) (f : AS → Prop) : forceS S f = f S := by
  obtain ⟨fr, obs⟩ := S
  cases fr with
  | nil => simp only [forceS, forceOL_eq]
  | cons p r =>
    obtain ⟨t, a⟩ := p
    simp only [forceS, forceOL_eq, forceA_eq, forceF_eq]
theorem putK_eq (S : AS) (d : Option Tmp) (a : AV) (f : AS → Prop) : putK S d a f = f (S.put d a) := by
  cases d <;> rfl

end Go.Proofs.YtjfnhehjhicnoaaDoor
