/-
  The steps that make or write memory.
-/
import Derived.Test.YtjfnhehjhicnoaaDoorVmG2
import Derived.ArgAppend
import Derived.Laws.IdiomStrings
import Derived.Laws.AppendOwn
import Derived.MapKept
import Derived.DeepKeys3
namespace Go.Proofs.YtjfnhehjhicnoaaDoor
open Go.RowKit

section
variable {P : Program} {T : Tab} {w0 : Env} {w w' : World} {I0 I : Nat → Prop} {S : AS} {σ : Asg} {tm : Array Value} {B : Nat → Prop} {obs : List OB}

/-- one object more, with blocks under it -/
def Asg.extG (σ : Asg) (b : Option Nat) (v : Value) (s : List Nat) : Asg := ⟨σ.cnt + 1, fun i => if i = σ.cnt then b else σ.blk i, fun i => if i = σ.cnt then v else σ.hdr i, fun i => if i = σ.cnt then s else σ.sub i⟩
theorem Asg.le_extG (σ : Asg) (b : Option Nat) (v : Value) (s : List Nat) : σ.le (σ.extG b v s) :=
  ⟨Nat.le_succ _, fun i hi => by simp only [Asg.extG]; rw [if_neg (by omega)], fun i hi => by simp only [Asg.extG]; rw [if_neg (by omega)], fun i hi => by simp only [Asg.extG]; rw [if_neg (by omega)]⟩
theorem Store.snocG (h : Store σ I w B obs) {b : Option Nat} {v : Value} {s : List Nat} {o : OB}
    (hb : ∀ x, (b = some x ∨ ∃ k : Nat, s[k]? = some x) → B x ∧ ¬ I x ∧ x < w.heap.size ∧ ∀ i o, obs[i]? = some o → o.live = true → ¬ σ.has i x) (ho : ObjRel (σ.extG b v s) I w σ.cnt o) : Store (σ.extG b v s) I w B (obs ++ [o]) := by
  have hle := Asg.le_extG σ b v s
  have hasOld : ∀ i x, i < obs.length → ((σ.extG b v s).has i x ↔ σ.has i x) := fun i x hi => hle.has (by rw [h.cnt]; exact hi)
  have hasNew : ∀ x, (σ.extG b v s).has obs.length x ↔ (b = some x ∨ ∃ k : Nat, s[k]? = some x) := fun x => by simp [Asg.has, Asg.extG, h.cnt]
  have at_ : ∀ (i : Nat) o', (obs ++ [o])[i]? = some o' → (i < obs.length ∧ obs[i]? = some o') ∨ (i = obs.length ∧ o' = o) := fun i o' e => by
    by_cases hi : i < obs.length
    · rw [List.getElem?_append_left hi] at e; exact .inl ⟨hi, e⟩
    · rw [List.getElem?_append_right (by omega)] at e
      have : i - obs.length = 0 := by
        rcases Nat.eq_zero_or_pos (i - obs.length) with h0 | h0
        · exact h0
        · rw [List.getElem?_eq_none (by simp; omega)] at e; cases e
      rw [this] at e
      simp at e
      exact .inr ⟨by omega, e.symm⟩
  refine ⟨by simp [Asg.extG, h.cnt], h.imm, fun i o' e => ?_, fun i o' x e hl ex => ?_, fun i j oi oj x ei ej li lj exi exj => ?_⟩
  · rcases at_ i o' e with ⟨hi, e'⟩ | ⟨rfl, rfl⟩
    · exact (h.obj i o' e').mono hle (by rw [h.cnt]; exact hi) (Keeps.refl I w) (fun _ h => h) (fun _ _ => rfl)
    · rw [← h.cnt]; exact ho
  · rcases at_ i o' e with ⟨hi, e'⟩ | ⟨rfl, rfl⟩
    · rw [hasOld i x hi] at ex
      exact h.freshH i o' x e' hl ex
    · rw [hasNew] at ex
      obtain ⟨h1, h2, h3, _⟩ := hb x ex
      exact ⟨h1, h2, h3⟩
  · rcases at_ i oi ei with ⟨hi, ei'⟩ | ⟨rfl, rfl⟩ <;> rcases at_ j oj ej with ⟨hj, ej'⟩ | ⟨rfl, rfl⟩
    · rw [hasOld i x hi] at exi
      rw [hasOld j x hj] at exj
      exact h.injH i j oi oj x ei' ej' li lj exi exj
    · rw [hasOld i x hi] at exi
      rw [hasNew] at exj
      exact absurd exi ((hb x exj).2.2.2 i oi ei' li)
    · rw [hasOld j x hj] at exj
      rw [hasNew] at exi
      exact absurd exj ((hb x exi).2.2.2 j oj ej' lj)
    · rfl

theorem Store.snoc' (h : Store σ I w B obs) {b : Option Nat} {v : Value} {o : OB}
    (hb : ∀ x, b = some x → B x ∧ ¬ I x ∧ x < w.heap.size ∧ ∀ i o, obs[i]? = some o → o.live = true → ¬ σ.has i x) (ho : ObjRel (σ.ext b v) I w σ.cnt o) : Store (σ.ext b v) I w B (obs ++ [o]) :=
  h.snocG (s := []) (fun x hx => hb x (by simpa using hx)) ho
theorem Rel.snocG (h : Rel w0 I0 S σ I tm w) {b : Option Nat} {v : Value} {s : List Nat} {o : OB} (hb : ∀ x, (b = some x ∨ ∃ k : Nat, s[k]? = some x) → w0.F x ∧ ¬ I x ∧ x < w.heap.size ∧ ∀ i o, S.obs[i]? = some o → o.live = true → ¬ σ.has i x)
    (ho : ObjRel (σ.extG b v s) I w σ.cnt o) : Rel w0 I0 { S with obs := S.obs ++ [o] } (σ.extG b v s) I tm w :=
  ⟨h.same0, h.st.snocG hb ho, fun t => (h.fr t).mono (Asg.le_extG σ b v s) (Keeps.refl I w) (fun _ h => h), h.i1, h.i2, h.sz⟩

theorem Rel.snoc' (h : Rel w0 I0 S σ I tm w) {b : Option Nat} {v : Value} {o : OB} (hb : ∀ x, b = some x → w0.F x ∧ ¬ I x ∧ x < w.heap.size ∧ ∀ i o, S.obs[i]? = some o → o.live = true → ¬ σ.has i x)
    (ho : ObjRel (σ.ext b v) I w σ.cnt o) : Rel w0 I0 { S with obs := S.obs ++ [o] } (σ.ext b v) I tm w :=
  ⟨h.same0, h.st.snoc' hb ho, fun t => (h.fr t).mono (Asg.le_ext σ b v) (Keeps.refl I w) (fun _ h => h), h.i1, h.i2, h.sz⟩

/-- a new block of the call's own -/
def newBox (S : AS) (d : Option Tmp) (cs : List AV) : AS := AS.put { S with obs := S.obs ++ [.box cs] } d (.lp S.obs.length 0)

theorem newBox_sound (h : Rel w0 I0 S σ I tm w) {d : Option Tmp} (hd : ∀ t, d = some t → t < tm.size) {cs : List AV} {us : List Value} (hcs : DenL σ I w cs us) (h1 : ∀ x ∈ us, x.oneCell' = true) (ty : TypeId) :
    Rel w0 I0 (newBox S d cs) (σ.ext (some w.heap.size) undef) I (putT tm d (.pointer (some ⟨w.heap.size, 0, none⟩))) (w.alloc (.cells us.toArray ty)) := by
  have hw : Same w (w.alloc (.cells us.toArray ty)) := Same.alloc w _
  have hrel := h.snoc (w' := w.alloc (.cells us.toArray ty)) hw (b := some w.heap.size) (v := undef) (o := .box cs) (fun x e => by injection e with e; subst e; simp) (by
    refine ⟨w.heap.size, us, ty, by simp [Asg.ext], heap_alloc_new w _, ?_, h1⟩
    exact hcs.mono (Asg.le_ext _ _ _) (hw.keeps h.st.imm) (fun _ h => h))
  refine hrel.put hd ?_
  simp only [Den]
  have hc := h.st.cnt
  exact ⟨by simp [Asg.ext, hc], w.heap.size, by simp [Asg.ext, hc], rfl⟩

/-- a new strings.Builder -/
def newBld (S : AS) (d : Option Tmp) (T e b : Nat) : AS := AS.put { S with obs := S.obs ++ [.bld T e b []] } d (.c (.v (.pointer (some ⟨b, 0, none⟩))))
inductive BldG (B : Nat → Nat → Prop) : Prop where
  | mk (e : Nat) (h : ∀ b, B e b) : BldG B
theorem newBld_sound (h : Rel w0 I0 S σ I tm w) {d : Option Tmp} (hd : ∀ t, d = some t → t < tm.size) (T e : Nat) :
    Rel w0 I0 (newBld S d T e w.heap.size) (σ.ext (some w.heap.size) undef) I (putT tm d (.pointer (some ⟨w.heap.size, 0, none⟩))) (w.alloc (.cells [.pointer none, .slice none 0 0].toArray T)) := by
  have hw : Same w (w.alloc (.cells [.pointer none, .slice none 0 0].toArray T)) := Same.alloc w _
  have hrel := h.snoc (w' := w.alloc (.cells [.pointer none, .slice none 0 0].toArray T)) hw (b := some w.heap.size) (v := undef) (o := .bld T e w.heap.size []) (fun x e => by injection e with e; subst e; simp) (by
    show BldRel _ _ _ _ _ _ _
    refine ⟨by simp [Asg.ext], .pointer none, .slice none 0 0, heap_alloc_new w _, .inl rfl, World.ownsRow_nil _ 0 e 1, ?_, ?_⟩
    · simp [Value.ownBlock]
    · intro g hg
      simp [Value.ownBlock] at hg)
  refine hrel.put hd ?_
  simp only [Den, L.rd]
  exact ⟨trivial, rfl⟩

/-- a new array's variable, of single cells -/
def newArr (S : AS) (d : Option Tmp) (n : Nat) (z : Value) : AS := AS.put { S with obs := S.obs ++ [.arr 1 n true fun _ _ => .v z] } d (.lp S.obs.length 0)

theorem newArr_sound (h : Rel w0 I0 S σ I tm w) {d : Option Tmp} (hd : ∀ t, d = some t → t < tm.size) {n : Nat} {z : Value} (hz : z.oneCell' = true) (ty : TypeId) :
    Rel w0 I0 (newArr S d n z) (σ.ext (some w.heap.size) undef) I (putT tm d (.pointer (some ⟨w.heap.size, 0, none⟩))) (w.alloc (.cells (List.replicate n z).toArray ty)) := by
  have hw : Same w (w.alloc (.cells (List.replicate n z).toArray ty)) := Same.alloc w _
  have hrel := h.snoc (w' := w.alloc (.cells (List.replicate n z).toArray ty)) hw (b := some w.heap.size) (v := undef) (o := .arr 1 n true fun _ _ => .v z) (fun x e => by injection e with e; subst e; simp) (by
    refine ⟨⟨w.heap.size, List.replicate n z, ty, by simp [Asg.ext], heap_alloc_new w _, by simp, fun x hx => ?_, fun k hk j hj => ⟨z, ?_, rfl, hz⟩⟩, fun _ _ _ => rfl⟩
    · rw [(List.mem_replicate.1 hx).2]; exact hz
    · rw [List.getElem?_replicate, if_pos (by omega)])
  refine hrel.put hd ?_
  simp only [Den]
  have hc := h.st.cnt
  exact ⟨by simp [Asg.ext, hc], w.heap.size, by simp [Asg.ext, hc], rfl⟩

/-- a new map -/
def newMap (S : AS) (d : Option Tmp) : AS := AS.put { S with obs := S.obs ++ [.keys []] } d (.own S.obs.length)
theorem newMap_sound (h : Rel w0 I0 S σ I tm w) {d : Option Tmp} (hd : ∀ t, d = some t → t < tm.size) :
    Rel w0 I0 (newMap S d) (σ.ext (some w.heap.size) (.map (some w.heap.size))) I (putT tm d (.map (some w.heap.size))) (w.alloc (.map #[] 0)) := by
  have hw : Same w (w.alloc (.map #[] 0)) := Same.alloc w _
  have hrel := h.snoc (w' := w.alloc (.map #[] 0)) hw (b := some w.heap.size) (v := .map (some w.heap.size)) (o := .keys []) (fun x e => by injection e with e; subst e; simp) (by
    exact ⟨w.heap.size, #[], 0, by simp [Asg.ext], by simp [Asg.ext], heap_alloc_new w _, rfl⟩)
  refine hrel.put hd ?_
  simp only [Den]
  have hc := h.st.cnt
  exact ⟨by simp [Asg.ext, hc], by simp [Asg.ext, hc], rfl⟩
/-- a key's value -/
def keyV : AV → Option Value
  | .c (.v x) => some x
  | .agg cs => (toCs cs).map fun us => .agg us.toArray
  | _ => none
/-- what is read at a key: r is the value, or none -/
structure LookG (P : Program) (T : Tab) (t : TypeId) (es : List (Value × Value)) (kv : Value) (co : Bool) (K : AV → Prop) : Prop where
  ex : ∃ (kt et : TypeId) (te : TE) (r : Option Value), P.underlying t = some (.map kt et) ∧ WideMaps.KeyLaw P kt ∧ tget T et = some te ∧ te.zero.oneCell' = true ∧ (∃ l, keyOf P kt kv = some l) ∧
    (∀ p ∈ es, (∃ l, keyOf P kt p.1 = some l) ∧ p.2.oneCell' = true) ∧ (match r with | none => ∀ p ∈ es, p.1 ≠ kv | some v => (∃ p ∈ es, p.1 = kv) ∧ ∀ p ∈ es, p.1 = kv → p.2 = v) ∧
    K (match co with | true => .tup [.c (.v (r.getD te.zero)), .c (.v (.bool r.isSome))] | false => .c (.v (r.getD te.zero)))
/-- a key that is not there is put in -/
structure UpdG (P : Program) (t : TypeId) (es : List (Value × Value)) (kv xv : Value) (K : List (Value × Value) → Prop) : Prop where
  ex : ∃ (kt et : TypeId), P.underlying t = some (.map kt et) ∧ WideMaps.KeyLaw P kt ∧ (∃ l, keyOf P kt kv = some l) ∧ (∀ p ∈ es, ∃ l, keyOf P kt p.1 = some l) ∧ (∀ p ∈ es, p.1 ≠ kv) ∧ K (es ++ [(kv, xv)])
def lookE (P : Program) (T : Tab) (S : AS) (t : TypeId) (m k : AV) (co : Bool) (d : Option Tmp) (K : AS → Prop) : Prop :=
  match m with
  | .own i => match S.obs[i]? with
    | some (.keys es) => match keyV k with
      | some kv => LookG P T t es kv co fun a => K (AS.put S d a)
      | none => False
    | _ => False
  | _ => False
def updE (P : Program) (S : AS) (t : TypeId) (m k x : AV) (K : AS → Prop) : Prop :=
  match m with
  | .own i => match S.obs[i]? with
    | some (.keys es) => match keyV k, x with
      | some kv, .c (.v xv) => UpdG P t es kv xv fun es' => K { S with obs := S.obs.set i (.keys es') }
      | _, _ => False
    | _ => False
  | _ => False
theorem keyV_den {a : AV} {u kv : Value} (h : keyV a = some kv) (hd : Den σ I w a u) : u = kv := by
  unfold keyV at h
  split at h
  · injection h with h
    simp only [Den, L.rd] at hd
    exact hd.1.trans h
  · obtain ⟨us, h1, rfl⟩ := Option.map_eq_some_iff.1 h
    simp only [Den] at hd
    obtain ⟨vs, rfl, h2, -⟩ := hd
    rw [toCs_den h1 h2]
  · cases h
theorem lookE_sound (hT : TabOk P T) (h : Rel w0 I0 S σ I tm w) {t : TypeId} {m k : AV} {um uk : Value} {co : Bool} {d : Option Tmp} (hd : ∀ t, d = some t → t < tm.size) {K : AS → Prop} (hm : Den σ I w m um) (hk : Den σ I w k uk) (hs : lookE P T S t m k co d K) :
    ∃ u S', (Instr.lookup t um uk co).run P w = .ok u w ∧ K S' ∧ Rel w0 I0 S' σ I (putT tm d u) w := by
  unfold lookE at hs
  split at hs
  · rename_i i
    split at hs
    · rename_i es ho
      split at hs
      · rename_i kv hkv
        obtain rfl := keyV_den hkv hk
        obtain ⟨kt, et, te, r, q1, q2, q3, q4, ⟨l, q5⟩, q6, q7, hK⟩ := hs.ex
        simp only [Den] at hm
        obtain ⟨hi, rfl, -⟩ := hm
        obtain ⟨b, ms, clock, b1, b2, b3, b4⟩ := h.st.obj i _ ho
        rw [b2]
        have hz := run_zero (hT et te q3) w
        have hc := q2.check w ms.isEmpty q5
        have hmem : ∀ e ∈ ms.toList, (e.key, e.val) ∈ es := fun e he => by rw [← b4]; exact List.mem_map.2 ⟨e, he, rfl⟩
        have hval : ∃ f, (Instr.findKey kt uk ms.toList).run P w = .ok f w ∧ ((f = none ∧ r = none) ∨ ∃ j v, f = some (j, v) ∧ r = some v ∧ v.oneCell' = true) := by
          rcases q2.find w q5 ms.toList (fun e he => (q6 _ (hmem e he)).1) with ⟨g1, g2⟩ | ⟨j, e, g1, g2, g3⟩
          · refine ⟨_, g1, .inl ⟨rfl, ?_⟩⟩
            cases r with
            | none => rfl
            | some v =>
              obtain ⟨⟨p, hp, hpk⟩, -⟩ := q7
              rw [← b4] at hp
              obtain ⟨e, he, rfl⟩ := List.mem_map.1 hp
              exact absurd hpk (g2 e he)
          · have he := List.mem_of_getElem? g2
            refine ⟨_, g1, .inr ⟨j, e.val, rfl, ?_, (q6 _ (hmem e he)).2⟩⟩
            cases r with
            | none => exact absurd g3 (q7 _ (hmem e he))
            | some v => exact congrArg some (q7.2 _ (hmem e he) g3).symm
        obtain ⟨f, g1, g2⟩ := hval
        rcases g2 with ⟨rfl, rfl⟩ | ⟨j, v, rfl, rfl, hv⟩
        · cases co
          · refine ⟨te.zero, _, ?_, hK, h.put hd (by simp only [Den, L.rd, Option.getD]; exact ⟨trivial, q4⟩)⟩
            simp only [Instr.lookup, Sem.run_bind, run_underlying q1, MapKept.run_getObj_map b3, Result.andThen_ok, Sem.run_pure, hc, g1, hz]
            rfl
          · refine ⟨.tuple #[te.zero, .bool false], _, ?_, hK, h.put hd (by simp only [Den, DenL, L.rd, Option.getD, Option.isSome]; exact ⟨[te.zero, .bool false], rfl, _, _, rfl, ⟨rfl, q4⟩, _, _, rfl, ⟨rfl, rfl⟩, rfl⟩)⟩
            simp only [Instr.lookup, Sem.run_bind, run_underlying q1, MapKept.run_getObj_map b3, Result.andThen_ok, Sem.run_pure, hc, g1, hz]
            rfl
        · cases co
          · refine ⟨v, _, ?_, hK, h.put hd (by simp only [Den, L.rd, Option.getD]; exact ⟨trivial, hv⟩)⟩
            simp only [Instr.lookup, Sem.run_bind, run_underlying q1, MapKept.run_getObj_map b3, Result.andThen_ok, Sem.run_pure, hc, g1]
            rfl
          · refine ⟨.tuple #[v, .bool true], _, ?_, hK, h.put hd (by simp only [Den, DenL, L.rd, Option.getD, Option.isSome]; exact ⟨[v, .bool true], rfl, _, _, rfl, ⟨rfl, hv⟩, _, _, rfl, ⟨rfl, rfl⟩, rfl⟩)⟩
            simp only [Instr.lookup, Sem.run_bind, run_underlying q1, MapKept.run_getObj_map b3, Result.andThen_ok, Sem.run_pure, hc, g1]
            rfl
      · exact hs.elim
    · exact hs.elim
  · exact hs.elim
theorem updE_sound (h : Rel w0 I0 S σ I tm w) {t : TypeId} {m k x : AV} {um uk ux : Value} {K : AS → Prop} (hm : Den σ I w m um) (hk : Den σ I w k uk) (hx : Den σ I w x ux) (hs : updE P S t m k x K) :
    ∃ w' S', (Instr.mapUpdate t um uk ux).run P w = .ok () w' ∧ K S' ∧ Rel w0 I0 S' σ I tm w' := by
  unfold updE at hs
  split at hs
  · rename_i i
    split at hs
    · rename_i es ho
      split at hs
      · rename_i kv xv hkv
        obtain rfl := keyV_den hkv hk
        obtain ⟨kt, et, q1, q2, ⟨l, q5⟩, q6, q7, hK⟩ := hs.ex
        simp only [Den, L.rd] at hm hx
        obtain ⟨hi, rfl, -⟩ := hm
        obtain ⟨rfl, -⟩ := hx
        obtain ⟨b, ms, clock, b1, b2, b3, b4⟩ := h.st.obj i _ ho
        rw [b2]
        have hc := q2.check w false q5
        have hmem : ∀ e ∈ ms.toList, (e.key, e.val) ∈ es := fun e he => by rw [← b4]; exact List.mem_map.2 ⟨e, he, rfl⟩
        have hset := MapKept.heap_set (o' := .map (ms.push { key := uk, val := ux, born := clock }) (clock + 1)) b3
        rcases q2.find w q5 ms.toList (fun e he => q6 _ (hmem e he)) with ⟨g1, g2⟩ | ⟨j, e, g1, g2, g3⟩
        · refine ⟨{ w with heap := w.heap.setIfInBounds b (.map (ms.push { key := uk, val := ux, born := clock }) (clock + 1)) }, _, ?_, hK, h.upd (b := b) ho rfl b1 rfl rfl rfl (by simp) (fun y _ hy => hset.2 y hy) ?_⟩
          · simp only [Instr.mapUpdate, Sem.run_bind, run_underlying q1, MapKept.run_getObj_map b3, Result.andThen_ok, Sem.run_pure, hc, g1, MapKept.run_setObj_map _ b3]
          · exact ⟨b, _, clock + 1, b1, b2, hset.1, by simp [b4]⟩
        · exact absurd g3 (q7 _ (hmem e (List.mem_of_getElem? g2)))
      · exact hs.elim
    · exact hs.elim
  · exact hs.elim

def fsetL (k j : Nat) (ls : List L) (f : Nat → Nat → L) : Nat → Nat → L := fun k' j' => if k' = k then (if j ≤ j' ∧ j' < j + ls.length then (ls[j' - j]?).getD .un else f k' j') else f k' j'

def storeE0 (T : Tab) (S : AS) (t : TypeId) (a x : AV) (K : AS → Prop) : Prop :=
  match tget T t with
  | none => False
  | some te => match a with
    | .lp i off => match S.obs[i]?, x.cells with
      | some (.box cs0), some cs => cs.length = te.size ∧ off + cs.length ≤ cs0.length ∧ K { S with obs := S.obs.set i (.box (setMany cs0 off cs)) }
      | _, _ => False
    | .rp i sz k j => match S.obs[i]?, x.cells with
      | some (.row e sz' n sc f), some cs => match boxL S.obs cs with
        | some ls => sz' = sz ∧ ls.length = te.size ∧ k < n ∧ j + ls.length ≤ sz ∧ (cellIds cs).contains i = false ∧
            K { S with obs := (killL S.obs (cellIds cs)).set i (.row e sz n (sc && ls.all L.scal) (fun k' j' => if k' = k then (if j ≤ j' ∧ j' < j + ls.length then (ls[j' - j]?).getD .un else f k' j') else f k' j')) }
        | none => False
      | some (.arr sz' n sc f), some cs => match boxL S.obs cs with
        | some ls => sz' = sz ∧ ls.length = te.size ∧ k < n ∧ j + ls.length ≤ sz ∧ (cellIds cs).contains i = false ∧
            K { S with obs := (killL S.obs (cellIds cs)).set i (.arr sz n (sc && ls.all L.scal) (fun k' j' => if k' = k then (if j ≤ j' ∧ j' < j + ls.length then (ls[j' - j]?).getD .un else f k' j') else f k' j')) }
        | none => False
      | _, _ => False
    | .gp i k j => match S.obs[i]?, x with
      | some (.grid e n m f), .c (.v u) => te.size = 1 ∧ k < n ∧ j < m ∧ K { S with obs := S.obs.set i (.grid e n m fun k' j' => if k' = k then (if j' = j then u else f k' j') else f k' j') }
      | _, _ => False
    | _ => False

def storeE (T : Tab) (S : AS) (t : TypeId) (a x : AV) (K : AS → Prop) : Prop :=
  match x with
  | .av m g => match tget T t, a with
    | some te, .lp i off => match S.obs[i]? with
      | some (.arr sz n _ _) => off = 0 ∧ sz = 1 ∧ te.size = n ∧ m = n ∧ K { S with obs := S.obs.set i (.arr 1 m false fun k _ => g k) }
      | _ => False
    | _, _ => False
  | _ => storeE0 T S t a x K

theorem run_storeAt {t : TypeId} {te : TE} (hok : te.ok P t) {g off : Nat} {ty : TypeId} {cur : Array Value} {u : Value} {vs : List Value} (hg : w.heap[g]? = some (.cells cur ty (0, 0)))
    (hu : u.cells = vs.toArray) (hsz : vs.length = te.size) (hfit : off + vs.length ≤ cur.size) (h1 : ∀ v ∈ vs, v.oneCell' = true) :
    (Instr.storeAt t (.pointer (some ⟨g, off, none⟩)) u).run P w = .ok () (w.setRow g (cur.toList.take off ++ vs ++ cur.toList.drop (off + vs.length)).toArray) := by
  have := run_storeCells_at P g off ty vs 0 cur w hg (by simpa using hfit) h1
  simp only [Nat.add_zero] at this
  simp [Instr.storeAt, Instr.sureAddr, storeVar, run_sizeOf' hok, hu, hsz, this]

theorem setMany_list : ∀ (vs l : List Value) (o : Nat), o + vs.length ≤ l.length → ((vs.zipIdx 0).foldl (fun (cs : Array Value) (p : Value × Nat) => cs.setIfInBounds (o + p.2) p.1) l.toArray) = (l.take o ++ vs ++ l.drop (o + vs.length)).toArray := by
  have key : ∀ (vs l : List Value) (o k : Nat), o + k + vs.length ≤ l.length → ((vs.zipIdx k).foldl (fun (cs : Array Value) (p : Value × Nat) => cs.setIfInBounds (o + p.2) p.1) l.toArray) = (l.take (o + k) ++ vs ++ l.drop (o + k + vs.length)).toArray := by
    intro vs
    induction vs with
    | nil => intro l o k _; simp
    | cons v vs ih =>
      intro l o k hl
      simp only [List.zipIdx_cons, List.foldl_cons]
      rw [show l.toArray.setIfInBounds (o + k) v = (l.set (o + k) v).toArray from by simp, show o + k = o + k from rfl]
      rw [ih (l.set (o + k) v) o (k + 1) (by simp at hl ⊢; omega)]
      congr 1
      have e := list_seg_step l (o + k) v vs (by simp at hl ⊢; omega)
      simpa [Nat.add_assoc] using e
  intro vs l o h
  simpa using key vs l o 0 (by simpa using h)

theorem setRow_other' (g : Nat) (cs : Array Value) (k : Nat) (h : k ≠ g) : (w.setRow g cs).heap[k]? = w.heap[k]? := setRow_other w g k cs h

/-- some cells of a row written -/
theorem rows_set {sz n k j : Nat} {f : Nat → Nat → L} {xs vs : List Value} {ls : List L} {J : Nat → Prop} {w1 w2 : World} (hkJ : Keeps J w1 w2) (hxl : xs.length = n * sz) (hk : k < n) (hj : j + ls.length ≤ sz) (hvl : vs.length = ls.length)
    (hx1 : ∀ x ∈ xs, x.oneCell' = true) (hv1 : ∀ x ∈ vs, x.oneCell' = true) (hxs : ∀ k, k < n → ∀ j, j < sz → ∃ c, xs[k * sz + j]? = some c ∧ (f k j).rd w1 J c) (hvs : ∀ (m : Nat) l, ls[m]? = some l → ∃ u, vs[m]? = some u ∧ l.rd w1 J u) :
    k * sz + (j + vs.length) ≤ n * sz ∧
    (∀ m, (xs.take (k * sz + j) ++ vs ++ xs.drop (k * sz + j + vs.length))[m]? = if k * sz + j ≤ m ∧ m < k * sz + j + vs.length then vs[m - (k * sz + j)]? else xs[m]?) ∧
    (xs.take (k * sz + j) ++ vs ++ xs.drop (k * sz + j + vs.length)).length = n * sz ∧
    (∀ x ∈ xs.take (k * sz + j) ++ vs ++ xs.drop (k * sz + j + vs.length), x.oneCell' = true) ∧
    ∀ k', k' < n → ∀ j', j' < sz → ∃ c, (xs.take (k * sz + j) ++ vs ++ xs.drop (k * sz + j + vs.length))[k' * sz + j']? = some c ∧ (if k' = k then (if j ≤ j' ∧ j' < j + ls.length then (ls[j' - j]?).getD .un else f k' j') else f k' j' : L).rd w2 J c := by
  have hkn : k * sz + (j + vs.length) ≤ n * sz := by
    have h1 : (k + 1) * sz ≤ n * sz := Nat.mul_le_mul_right _ hk
    rw [Nat.add_mul, Nat.one_mul] at h1
    omega
  have hget : ∀ m, (xs.take (k * sz + j) ++ vs ++ xs.drop (k * sz + j + vs.length))[m]? = if k * sz + j ≤ m ∧ m < k * sz + j + vs.length then vs[m - (k * sz + j)]? else xs[m]? := fun m => by
    by_cases c1 : m < k * sz + j
    · rw [if_neg (by omega), List.append_assoc, List.getElem?_append_left (by simp; omega), List.getElem?_take, if_pos c1]
    · by_cases c2 : m < k * sz + j + vs.length
      · rw [if_pos ⟨by omega, c2⟩, List.getElem?_append_left (by simp; omega), List.getElem?_append_right (by simp; omega)]
        congr 1
        simp
        omega
      · rw [if_neg (by omega), List.getElem?_append_right (by simp; omega), List.getElem?_drop]
        congr 1
        simp
        omega
  refine ⟨hkn, hget, ?_, ?_, ?_⟩
  · simp
    omega
  · intro v hv
    simp only [List.mem_append] at hv
    rcases hv with (hv | hv) | hv
    · exact hx1 v (List.mem_of_mem_take hv)
    · exact hv1 v hv
    · exact hx1 v (List.mem_of_mem_drop hv)
  · intro k' hk' j' hj'
    rw [hget]
    by_cases ck : k' = k
    · subst ck
      rw [if_pos rfl]
      by_cases cj : j ≤ j' ∧ j' < j + ls.length
      · rw [if_pos (by omega), if_pos cj]
        obtain ⟨u, q1, q2⟩ := hvs (j' - j) ls[j' - j] (List.getElem?_eq_getElem (by omega))
        refine ⟨u, ?_, ?_⟩
        · rw [← q1]; congr 1; omega
        · rw [List.getElem?_eq_getElem (by omega)]
          exact L.rd_mono hkJ (fun _ h => h) q2
      · rw [if_neg (by omega), if_neg cj]
        obtain ⟨c, q1, q2⟩ := hxs k' hk' j' hj'
        exact ⟨c, q1, L.rd_mono hkJ (fun _ h => h) q2⟩
    · rw [if_neg ck]
      obtain ⟨c, q1, q2⟩ := hxs k' hk' j' hj'
      refine ⟨c, ?_, L.rd_mono hkJ (fun _ h => h) q2⟩
      rw [if_neg]
      · exact q1
      · rintro ⟨p1, p2⟩
        rcases Nat.lt_or_gt_of_ne ck with c | c
        · have h1 : (k' + 1) * sz ≤ k * sz := Nat.mul_le_mul_right _ c
          rw [Nat.add_mul, Nat.one_mul] at h1
          omega
        · have h1 : (k + 1) * sz ≤ k' * sz := Nat.mul_le_mul_right _ c
          rw [Nat.add_mul, Nat.one_mul] at h1
          omega

theorem fset_scal {k j : Nat} {f : Nat → Nat → L} {ls : List L} {sc : Bool} (hscl : sc = true → ∀ k j, (f k j).scal = true) (hsc : (sc && ls.all L.scal) = true) (k' j' : Nat) :
    (if k' = k then (if j ≤ j' ∧ j' < j + ls.length then (ls[j' - j]?).getD .un else f k' j') else f k' j' : L).scal = true := by
  simp only [Bool.and_eq_true] at hsc
  split
  · split
    · rw [List.getElem?_eq_getElem (by omega)]
      exact List.all_eq_true.1 hsc.2 _ (List.getElem_mem _)
    · exact hscl hsc.1 k' j'
  · exact hscl hsc.1 k' j'

theorem GridRel.set {hdr : Value} {blk : Option Nat} {sub : List Nat} {e n m : Nat} {f : Nat → Nat → Value} (h : GridRel w hdr blk sub e n m f) {k j b : Nat} (hb : sub[k]? = some b) {u : Value} (hu : u.oneCell' = true) {ys : List Value} {ty : TypeId}
    (h0 : w.heap[b]? = some (.cells (List.toArray ys) ty (0, 0))) (hw : w'.heap[b]? = some (.cells (List.toArray (ys.set j u)) ty (0, 0))) (hne : ∀ x, x ≠ b → w'.heap[x]? = w.heap[x]?) :
    GridRel w' hdr blk sub e n m fun k' j' => if k' = k then (if j' = j then u else f k' j') else f k' j' := by
  obtain ⟨q0, xs, q1, q2⟩ := h.row
  refine ⟨⟨q0, xs, ⟨q1.1, ?_⟩, q2⟩, fun k' hk' => ?_, h.size, h.inj, h.out⟩
  · rcases q1.2 with h5 | ⟨g, cap, cur, e1, e2, e3, e4⟩
    · exact .inl h5
    · refine .inr ⟨g, cap, cur, e1, e2, ?_, e4⟩
      rw [hne g fun e => h.out k b hb (by rw [← q0, e1, ← e]; rfl)]
      exact e3
  · obtain ⟨b', zs, ty', r1, r2, r3, r4⟩ := h.inn k' hk'
    by_cases hkk : k' = k
    · subst hkk
      rw [hb] at r1; injection r1 with r1; subst r1
      rw [h0] at r2
      injection r2 with r2
      injection r2 with r2 r5 _
      obtain rfl := List.toArray_inj r2
      refine ⟨b, ys.set j u, ty, hb, hw, by simpa using r3, fun j' hj' => ?_⟩
      rw [if_pos rfl]
      by_cases hjj : j' = j
      · subst hjj
        rw [if_pos rfl, List.getElem?_set_self (by omega)]
        exact ⟨rfl, hu⟩
      · rw [if_neg hjj, List.getElem?_set_ne (fun e => hjj e.symm)]
        exact r4 j' hj'
    · refine ⟨b', zs, ty', r1, ?_, r3, fun j' hj' => ?_⟩
      · rw [hne b' fun e => hkk (h.inj k' k b' r1 (e ▸ hb))]
        exact r2
      · rw [if_neg hkk]
        exact r4 j' hj'

theorem storeE0_sound (hT : TabOk P T) (h : Rel w0 I0 S σ I tm w) {t : TypeId} {a x : AV} {ua ux : Value} {K : AS → Prop} (ha : Den σ I w a ua) (hx : Den σ I w x ux) (hs : storeE0 T S t a x K) :
    ∃ w' S' I', (Instr.storeAt t ua ux).run P w = .ok () w' ∧ K S' ∧ Rel w0 I0 S' σ I' tm w' := by
  unfold storeE0 at hs
  split at hs
  · exact hs.elim
  · rename_i te hte
    have hok := hT t te hte
    split at hs
    · rename_i i off
      split at hs
      · rename_i cs0 cs ho hcs
        obtain ⟨hsz, hfit, hK⟩ := hs
        simp only [Den] at ha
        obtain ⟨hi, b, hb, rfl⟩ := ha
        obtain ⟨vs, e1, e2, e3⟩ := AV.cells_sound hcs hx
        obtain ⟨b', us, ty, hb', hh, hdl, h1c⟩ := h.st.obj i _ ho
        rw [hb] at hb'; injection hb' with hb'; subst hb'
        have l1 := e2.len
        have l2 := hdl.len
        have hfit' : off + vs.length ≤ us.length := by omega
        have hrun := run_storeAt (P := P) hok (off := off) hh e1 (by omega) (by simpa using hfit') e3
        simp only at hrun
        have hrow := setRow_heap w b us.toArray (us.take off ++ vs ++ us.drop (off + vs.length)).toArray ty (0, 0) hh
        refine ⟨_, _, I, hrun, hK, h.upd (b := b) ho rfl hb rfl rfl rfl (by simp) (fun x _ hx' => setRow_other w b x _ hx') ?_⟩
        obtain ⟨us', g1, g2, g3⟩ := setMany_sound off 0 e2 hdl h1c e3
        rw [setMany_list vs us off hfit'] at g1
        have g1' := List.toArray_inj g1
        have hkI : Keeps I w (w.setRow b (us.take off ++ vs ++ us.drop (off + vs.length)).toArray) := fun y hy => setRow_other w b y _ (fun e => (h.st.fresh i _ b ho rfl hb).2.1 (e ▸ hy))
        exact ⟨b, us', ty, hb, by rw [← g1']; exact hrow, g2.mono (Asg.le_refl σ) hkI (fun _ h => h), g3⟩
      · exact hs.elim
    · rename_i i sz k j
      split at hs
      · rename_i e sz' n sc f cs ho hcs
        split at hs
        · rename_i ls hls
          obtain ⟨rfl, hsz, hk, hj, hni, hK⟩ := hs
          simp only [Den] at ha
          obtain ⟨hi, b, hb, rfl⟩ := ha
          obtain ⟨vs, e1, e2, e3⟩ := AV.cells_sound hcs hx
          have hkill := h.kill (cellIds cs)
          obtain ⟨l1, hvs⟩ := cellL_sound h.st (J := frozenI σ I S.obs (cellIds cs)) (fun _ hI => .inl hI) hls (fun i hi o b ho hl hb => .inr ⟨i, hi, o, ho, hl, hb⟩) e2
          have ho' : (killL S.obs (cellIds cs))[i]? = some (.row e sz' n sc f) := by
            rw [killL_get, if_neg (by simpa using hni)]; exact ho
          obtain ⟨hrr, hscl⟩ := hkill.st.obj i _ ho'
          obtain ⟨g, cap, cur, xs, hh, hgb, hg, hnc, hcm, hcs', htake, hxl, hx1, hxs, _⟩ := hrr.at (by omega)
          rw [hb] at hgb; injection hgb with hgb; subst hgb
          have hvl : vs.length = ls.length := by omega
          have hkI : Keeps (frozenI σ I S.obs (cellIds cs)) w (w.setRow b (cur.toList.take (k * sz' + j) ++ vs ++ cur.toList.drop (k * sz' + j + vs.length)).toArray) := fun y hy => setRow_other w b y _ (fun ey => (hkill.st.fresh i _ b ho' rfl hb).2.1 (ey ▸ hy))
          obtain ⟨hkn, hget, hnl, hn1, hnf⟩ := rows_set hkI hxl hk hj hvl hx1 e3 hxs hvs
          have hcn : n * sz' ≤ cap * sz' := Nat.mul_le_mul_right _ hnc
          have hfit : k * sz' + j + vs.length ≤ cur.size := by omega
          have hrun := run_storeAt (P := P) hok (off := k * sz' + j) hg e1 (by omega) hfit e3
          have hheap := setRow_heap w b cur (cur.toList.take (k * sz' + j) ++ vs ++ cur.toList.drop (k * sz' + j + vs.length)).toArray e (0, 0) hg
          refine ⟨_, _, frozenI σ I S.obs (cellIds cs), hrun, hK, hkill.upd (b := b) ho' rfl hb rfl rfl rfl (by simp) (fun x _ hx' => setRow_other w b x _ hx') ?_⟩
          have hlen : cur.toList.length = cur.size := by simp
          have hob : (σ.hdr i).ownBlock = σ.blk i := by rw [hh, hb]; rfl
          refine ⟨.inr ⟨hob, xs.take (k * sz' + j) ++ vs ++ xs.drop (k * sz' + j + vs.length), ⟨hnl, .inr ⟨b, cap, _, hh, Nat.zero_le _, hheap, hnc, hcm, ?_, ?_⟩⟩, hn1, hnf⟩, fun hsc => fset_scal hscl hsc⟩
          · simp
            omega
          · refine List.ext_getElem? fun m => ?_
            rw [hget m, List.getElem?_take]
            by_cases c0 : m < n * sz'
            · rw [if_pos c0]
              simp only
              have hx : xs[m]? = cur.toList[m]? := by rw [← htake, List.getElem?_take, if_pos c0]
              by_cases c1 : m < k * sz' + j
              · rw [if_neg (by omega), List.append_assoc, List.getElem?_append_left (by simp; omega), List.getElem?_take, if_pos c1, hx]
              · by_cases c2 : m < k * sz' + j + vs.length
                · rw [if_pos ⟨by omega, c2⟩, List.getElem?_append_left (by simp; omega), List.getElem?_append_right (by simp; omega)]
                  congr 1
                  simp
                  omega
                · rw [if_neg (by omega), List.getElem?_append_right (by simp; omega), List.getElem?_drop, hx]
                  congr 1
                  simp
                  omega
            · rw [if_neg c0, if_neg (by omega)]
              rw [List.getElem?_eq_none (by omega)]
        · exact hs.elim
      · rename_i sz' n sc f cs ho hcs
        split at hs
        · rename_i ls hls
          obtain ⟨rfl, hsz, hk, hj, hni, hK⟩ := hs
          simp only [Den] at ha
          obtain ⟨hi, b, hb, rfl⟩ := ha
          obtain ⟨vs, e1, e2, e3⟩ := AV.cells_sound hcs hx
          have hkill := h.kill (cellIds cs)
          obtain ⟨l1, hvs⟩ := cellL_sound h.st (J := frozenI σ I S.obs (cellIds cs)) (fun _ hI => .inl hI) hls (fun i hi o b ho hl hb => .inr ⟨i, hi, o, ho, hl, hb⟩) e2
          have ho' : (killL S.obs (cellIds cs))[i]? = some (.arr sz' n sc f) := by
            rw [killL_get, if_neg (by simpa using hni)]; exact ho
          obtain ⟨⟨g, xs, ty, hgb, hg, hxl, hx1, hxs⟩, hscl⟩ := hkill.st.obj i _ ho'
          rw [hb] at hgb; injection hgb with hgb; subst hgb
          have hvl : vs.length = ls.length := by omega
          have hkI : Keeps (frozenI σ I S.obs (cellIds cs)) w (w.setRow b (xs.take (k * sz' + j) ++ vs ++ xs.drop (k * sz' + j + vs.length)).toArray) := fun y hy => setRow_other w b y _ (fun ey => (hkill.st.fresh i _ b ho' rfl hb).2.1 (ey ▸ hy))
          obtain ⟨hkn, hget, hnl, hn1, hnf⟩ := rows_set hkI hxl hk hj hvl hx1 e3 hxs hvs
          have hrun := run_storeAt (P := P) hok (off := k * sz' + j) hg e1 (by omega) (by simp; omega) e3
          simp only at hrun
          have hheap := setRow_heap w b xs.toArray (xs.take (k * sz' + j) ++ vs ++ xs.drop (k * sz' + j + vs.length)).toArray ty (0, 0) hg
          refine ⟨_, _, frozenI σ I S.obs (cellIds cs), hrun, hK, hkill.upd (b := b) ho' rfl hb rfl rfl rfl (by simp) (fun x _ hx' => setRow_other w b x _ hx') ?_⟩
          exact ⟨⟨b, _, ty, hb, hheap, hnl, hn1, hnf⟩, fun hsc => fset_scal hscl hsc⟩
        · exact hs.elim
      · exact hs.elim
    · rename_i i k j
      split at hs
      · rename_i e n m f u ho
        obtain ⟨hsz, hk, hj, hK⟩ := hs
        simp only [Den] at ha
        simp only [Den, L.rd] at hx
        obtain ⟨hi, b, hb, rfl⟩ := ha
        obtain ⟨rfl, hu⟩ := hx
        have hg : GridRel w (σ.hdr i) (σ.blk i) (σ.sub i) e n m f := h.st.obj i _ ho
        obtain ⟨b', ys, ty, r1, r2, r3, r4⟩ := hg.inn k hk
        rw [hb] at r1; injection r1 with r1; subst r1
        have hcl : ux.cells = [ux].toArray := by cases ux <;> first | rfl | cases hu
        have hrun := run_storeAt (P := P) hok (off := j) r2 hcl (by simpa using hsz.symm) (by simp; omega) (fun v hv => by simp at hv; subst hv; exact hu)
        simp only at hrun
        have heq : (ys.take j ++ [ux] ++ ys.drop (j + [ux].length)) = ys.set j ux := by
          rw [List.set_eq_take_append_cons_drop, if_pos (by omega)]
          simp
        have hheap := setRow_heap w b ys.toArray (ys.take j ++ [ux] ++ ys.drop (j + [ux].length)).toArray ty (0, 0) r2
        refine ⟨_, _, I, hrun, hK, h.updH (b := b) ho rfl (.inr ⟨k, hb⟩) rfl rfl rfl (by simp) (fun x _ hx' => setRow_other w b x _ hx') ?_⟩
        exact GridRel.set hg hb hu r2 (by rw [hheap, heq]) fun x hx' => setRow_other w b x _ hx'
      · exact hs.elim
    · exact hs.elim

theorem storeE_sound (hT : TabOk P T) (h : Rel w0 I0 S σ I tm w) {t : TypeId} {a x : AV} {ua ux : Value} {K : AS → Prop} (ha : Den σ I w a ua) (hx : Den σ I w x ux) (hs : storeE T S t a x K) :
    ∃ w' S' I', (Instr.storeAt t ua ux).run P w = .ok () w' ∧ K S' ∧ Rel w0 I0 S' σ I' tm w' := by
  unfold storeE at hs
  split at hs
  · rename_i m g
    split at hs
    · rename_i te i off hte
      have hok := hT t te hte
      split at hs
      · rename_i sz n sc f ho
        obtain ⟨rfl, rfl, hsz, rfl, hK⟩ := hs
        simp only [Den] at ha hx
        obtain ⟨hi, b, hb, rfl⟩ := ha
        obtain ⟨vs, rfl, hl, hv⟩ := hx
        obtain ⟨⟨b', xs, ty, hb', hh, hlx, h1c, _⟩, _⟩ := h.st.obj i _ ho
        rw [hb] at hb'; injection hb' with hb'; subst hb'
        have h1 : ∀ v ∈ vs, v.oneCell' = true := fun v hm => by
          obtain ⟨j, hj, e⟩ := List.getElem_of_mem hm
          obtain ⟨c, e1, e2⟩ := hv j (by omega)
          rw [List.getElem?_eq_getElem hj, e] at e1
          injection e1 with e1
          rw [e1]
          exact L.rd_one e2
        have hrun := run_storeAt (P := P) hok (off := 0) hh (u := .agg vs.toArray) (vs := vs) rfl (by omega) (by simp; omega) h1
        simp only at hrun
        have hrow := setRow_heap w b xs.toArray (xs.take 0 ++ vs ++ xs.drop (0 + vs.length)).toArray ty (0, 0) hh
        have hall : xs.take 0 ++ vs ++ xs.drop (0 + vs.length) = vs := by
          rw [List.drop_eq_nil_of_le (by omega)]
          simp
        have hkI : Keeps I w (w.setRow b (xs.take 0 ++ vs ++ xs.drop (0 + vs.length)).toArray) := fun y hy => setRow_other w b y _ (fun e => (h.st.fresh i _ b ho rfl hb).2.1 (e ▸ hy))
        refine ⟨_, _, I, hrun, hK, h.upd (b := b) ho rfl hb rfl rfl rfl (by simp) (fun x _ hx' => setRow_other w b x _ hx') ?_⟩
        refine ⟨⟨b, vs, ty, hb, ?_, by omega, h1, fun k hk j hj => ?_⟩, fun hc => by cases hc⟩
        · have h9 := hrow
          rw [hall] at h9
          rw [hall]
          exact h9
        · obtain rfl : j = 0 := by omega
          obtain ⟨c, e1, e2⟩ := hv k hk
          exact ⟨c, by simpa using e1, L.rd_mono hkI (fun _ h => h) e2⟩
      · exact hs.elim
    · exact hs.elim
  · exact storeE0_sound hT h ha hx hs
/-- 'make' and a literal: a row of the call's own -/
def zeroRow (te : TE) (n : Nat) : List AV := (List.range n).map fun j => .c (.v (te.zero.cells[j % te.zero.cells.size]!))

def fillS (sz : Nat) : List AV → List (Nat × AV) → Option (List AV)
  | l, [] => some l
  | l, (i, a) :: r => match a.cells with
    | some cs => if cs.length = sz ∧ i * sz + cs.length ≤ l.length then fillS sz (setMany l (i * sz) cs) r else none
    | none => none

/-- own rows that are put into another row: whoever still holds them reads them as slices -/
def frzW (S : AS) : List Nat → AS
  | [] => S
  | i :: r => frzS S (i :: r)
theorem Rel.frzW {w0 : Env} {w : World} {I0 I : Nat → Prop} {S : AS} {σ : Asg} {tm : Array Value} (h : Rel w0 I0 S σ I tm w) : ∀ ids : List Nat, Rel w0 I0 (frzW S ids) σ (frozenI σ I S.obs ids) tm w
  | [] => h.kill []
  | i :: r => h.frz (i :: r)

/-- a literal that holds one own row: frozen, or the first row of a grid -/
inductive LitG (A B : Prop) : Prop where
  | row (h : A) : LitG A B
  | grid (h : B) : LitG A B
def litG (S : AS) (e sz len : Nat) (cells : List AV) (d : Option Tmp) (K : AS → Prop) : Prop :=
  match cells with
  | [.own j] => match S.obs[j]? with
    | some (.row _ sz' m sc f) => sz = 1 ∧ len = 1 ∧ sz' = 1 ∧ sc = true ∧ 0 < m ∧ K (AS.put { S with obs := S.obs.set j .dead ++ [.grid e 1 m fun _ q => (f q 0).val] } d (.own S.obs.length))
    | _ => False
  | _ => False
def litE (T : Tab) (S : AS) (t : TypeId) (len : Nat) (parts : List (Nat × AV)) (d : Option Tmp) (K : AS → Prop) : Prop :=
  match tget T t with
  | some x => match x.td with
    | .slice e => match tget T e with
      | some te => match fillS te.size (zeroRow te (len * te.size)) parts with
        | some cells => match boxL S.obs cells with
          | some ls => (∀ u ∈ te.zero.cells.toList, u.oneCell' = true) ∧ len * te.size ≤ 16777216 ∧ len ≤ maxLen ∧ 0 < te.size ∧
              LitG (K (AS.put { fr := (frzW S (cellIds cells)).fr, obs := (frzW S (cellIds cells)).obs ++ [.row e te.size len (ls.all L.scal) fun k j => (ls[k * te.size + j]?).getD (.v undef)] } d (.own S.obs.length)))
                (litG S e te.size len cells d K)
          | none => False
        | none => False
      | none => False
    | _ => False
  | none => False

theorem fillS_sound {sz : Nat} : ∀ {parts : List (Nat × AV)} {us : List (Nat × Value)} {l r : List AV} {ul : List Value}, us.map (·.1) = parts.map (·.1) → (∀ (j : Nat) p, parts[j]? = some p → ∃ u, (us.map (·.2))[j]? = some u ∧ Den σ I w p.2 u) →
      DenL σ I w l ul → (∀ x ∈ ul, x.oneCell' = true) → fillS sz l parts = some r → ∃ ur : List Value, Instr.fill (fun i => some (i * sz, sz)) ul.toArray us = some ur.toArray ∧ DenL σ I w r ur ∧ (∀ x ∈ ur, x.oneCell' = true) ∧ ur.length = ul.length
  | [], us, l, r, ul, he, hu, hl, h1, h => by
    simp at he; subst he
    simp only [fillS] at h; injection h with h; subst h
    exact ⟨ul, rfl, hl, h1, rfl⟩
  | (i, a) :: parts, us0, l, r, ul, he0, hu, hl, h1, h => by
    cases us0 with
    | nil => simp at he0
    | cons p us =>
      obtain ⟨i', u⟩ := p
      simp only [List.map_cons, List.cons.injEq] at he0
      obtain ⟨rfl, he⟩ := he0
      simp only [fillS] at h
      split at h
      · rename_i cs hcs
        split at h
        · rename_i hsz
          obtain ⟨u', e1, e2⟩ := hu 0 _ rfl
          simp at e1; subst e1
          obtain ⟨vs, e3, e4, e5⟩ := AV.cells_sound hcs e2
          have hlv := e4.len
          obtain ⟨us', g1, g2, g3⟩ := setMany_sound (i' * sz) 0 e4 hl h1 e5
          have hl' := hl.len
          have hlu' : us'.length = ul.length := by
            have := g2.len
            rw [len_setMany] at this
            omega
          obtain ⟨ur, k1, k2, k3, k4⟩ := fillS_sound he (fun j p e => by simpa using hu (j + 1) p (by simpa using e)) g2 g3 h
          refine ⟨ur, ?_, k2, k3, by omega⟩
          simp only [Instr.fill, e3]
          rw [if_neg (by simp; omega), ← k1]
          congr 1
          rw [← g1]
          simp
        · cases h
      · cases h

theorem zeroRow_sound {te : TE} (h0 : ∀ u ∈ te.zero.cells.toList, u.oneCell' = true) (hz : 0 < te.zero.cells.size) (n : Nat) :
    DenL σ I w (zeroRow te n) ((List.range n).map fun j => te.zero.cells[j % te.zero.cells.size]!) ∧ ∀ x ∈ (List.range n).map (fun j => te.zero.cells[j % te.zero.cells.size]!), x.oneCell' = true := by
  have hone : ∀ j, (te.zero.cells[j % te.zero.cells.size]!).oneCell' = true := fun j => by
    have hlt := Nat.mod_lt j hz
    refine h0 _ ?_
    rw [getElem!_pos te.zero.cells _ hlt]
    simp
  refine ⟨?_, fun x hx => by simp at hx; obtain ⟨j, _, rfl⟩ := hx; exact hone j⟩
  unfold zeroRow
  generalize List.range n = l
  induction l with
  | nil => simp [DenL]
  | cons j l ih =>
    simp only [List.map_cons, DenL]
    exact ⟨_, _, rfl, by simp only [Den, L.rd]; exact ⟨trivial, hone j⟩, ih⟩

theorem litG_sound (h : Rel w0 I0 S σ I tm w) {d : Option Tmp} (hd : ∀ t, d = some t → t < tm.size) {e sz len : Nat} {cells : List AV} {K : AS → Prop} {ur : List Value} (k2 : DenL σ I w cells ur)
    (hrow : (w.alloc (.cells ur.toArray e)).ownsRow 0 e sz (.slice (some ⟨w.heap.size, 0, none⟩) len len) len ur) (hK : litG S e sz len cells d K) :
    ∃ S', K S' ∧ ∃ σ', Rel w0 I0 S' σ' I (putT tm d (.slice (some ⟨w.heap.size, 0, none⟩) len len)) (w.alloc (.cells ur.toArray e)) := by
  unfold litG at hK
  split at hK
  · rename_i j
    split at hK
    · rename_i e0 sz' m sc f ho
      obtain ⟨rfl, rfl, rfl, rfl, hm, hK⟩ := hK
      simp only [DenL] at k2
      obtain ⟨u, us', rfl, hu, rfl⟩ := k2
      simp only [Den] at hu
      obtain ⟨hj, rfl, _⟩ := hu
      obtain ⟨hrr, hsc⟩ := h.st.obj j _ ho
      obtain ⟨g, cap, cur, xs, hh, hgb, hg, hnc, hcm, hcs, htake, hxl, hx1, hxs, _⟩ := hrr.at hm
      let W := w.alloc (.cells [σ.hdr j].toArray e)
      have hw : Same w W := Same.alloc w _
      obtain ⟨f1, f2, f3⟩ := h.st.fresh j _ g ho rfl hgb
      have hdead : Rel w0 I0 { S with obs := S.obs.set j .dead } σ I tm W := (h.upd (o' := .dead) ho rfl hgb rfl rfl rfl (Nat.le_refl _) (fun _ _ _ => rfl) trivial).same hw
      refine ⟨_, hK, _, (hdead.snocG (b := some w.heap.size) (v := .slice (some ⟨w.heap.size, 0, none⟩) 1 1) (s := [g]) (o := .grid e 1 m fun _ q => (f q 0).val) (fun x hx => ?_) ?_).put hd ?_⟩
      · have oth : ∀ i o, ({ S with obs := S.obs.set j .dead } : AS).obs[i]? = some o → o.live = true → j ≠ i ∧ S.obs[i]? = some o := fun i o ei li => by
          by_cases hij : j = i
          · subst hij
            simp only at ei
            rw [List.getElem?_set_self (List.getElem?_eq_some_iff.1 ho).1] at ei
            injection ei with ei; subst ei; cases li
          · simp only at ei
            rw [List.getElem?_set_ne hij] at ei
            exact ⟨hij, ei⟩
        rcases hx with hx | ⟨k, hx⟩
        · injection hx with hx; subst hx
          refine ⟨h.hB _ (Nat.le_refl _), fun hI => Nat.lt_irrefl _ (h.st.imm _ hI), by simp [W], fun i o ei li hi => ?_⟩
          obtain ⟨_, ei'⟩ := oth i o ei li
          exact Nat.lt_irrefl _ (h.st.freshH i o _ ei' li hi).2.2
        · have hxg : x = g := by
            cases k with
            | zero => simpa using hx.symm
            | succ k => simp at hx
          subst hxg
          refine ⟨f1, f2, by have := hw.size; omega, fun i o ei li hi => ?_⟩
          obtain ⟨hji, ei'⟩ := oth i o ei li
          exact hji (h.st.injH j i _ o x ho ei' rfl li (.inl hgb) hi)
      · show GridRel W ((σ.extG _ _ _).hdr σ.cnt) ((σ.extG _ _ _).blk σ.cnt) ((σ.extG _ _ _).sub σ.cnt) e 1 m _
        simp only [Asg.extG, if_true]
        refine ⟨⟨rfl, _, hrow, fun k hk => ?_⟩, fun k hk => ?_, rfl, fun k k' b hb hb' => ?_, fun k b hb => ?_⟩
        · obtain rfl : k = 0 := by omega
          exact ⟨g, cap, rfl, by rw [← hh]; rfl, hnc, hcm⟩
        · obtain rfl : k = 0 := by omega
          refine ⟨g, cur.toList, e0, rfl, ?_, by rw [Array.length_toList, hcs]; omega, fun q hq => ?_⟩
          · rw [hw.block g f3]; exact hg
          · obtain ⟨c, c1, c2⟩ := hxs q hq 0 (by omega)
            have hcq : cur.toList[q]? = some c := by
              rw [← htake, List.getElem?_take, if_pos (by omega)] at c1
              simpa using c1
            have hs := hsc rfl q 0
            revert c2 hs
            cases f q 0 with
            | v x => intro c2 _; simp only [L.rd] at c2; rw [hcq, c2.1]; exact ⟨rfl, c2.2⟩
            | un => intro _ hs; cases hs
            | sl => intro _ hs; cases hs
        · have h1 : k = 0 := by have := (List.getElem?_eq_some_iff.1 hb).1; simp at this; omega
          have h2 : k' = 0 := by have := (List.getElem?_eq_some_iff.1 hb').1; simp at this; omega
          rw [h1, h2]
        · have h1 : k = 0 := by have := (List.getElem?_eq_some_iff.1 hb).1; simp at this; omega
          subst h1
          simp at hb
          subst hb
          simp
          omega
      · simp only [Den]
        have hc := h.st.cnt
        exact ⟨by simp [Asg.extG, hc], by simp [Asg.extG, hc], rfl⟩
    · exact hK.elim
  · exact hK.elim

theorem litE_sound (hT : TabOk P T) (h : Rel w0 I0 S σ I tm w) {t : TypeId} {len : Nat} {parts : List (Nat × AV)} {us : List (Nat × Value)} {d : Option Tmp} {K : AS → Prop} (hd : ∀ t, d = some t → t < tm.size)
    (he : us.map (·.1) = parts.map (·.1)) (hu : ∀ (j : Nat) q, parts[j]? = some q → ∃ u, (us.map (·.2))[j]? = some u ∧ Den σ I w q.2 u) (hs : litE T S t len parts d K) :
    ∃ u w' S' σ' I', (Instr.buildSlice t len us.toArray).run P w = .ok u w' ∧ K S' ∧ Rel w0 I0 S' σ' I' (putT tm d u) w' := by
  unfold litE at hs
  split at hs
  · rename_i x hx
    split at hs
    · rename_i e htd
      split at hs
      · rename_i te hte
        split at hs
        · rename_i cells hf
          split at hs
          · rename_i ls hls
            obtain ⟨h0, h24, hml, hsz, hLG⟩ := hs
            have hok := hT t x hx
            have hoke := hT e te hte
            obtain ⟨dd, ti, g1, g2, _⟩ := hok.get
            rw [htd] at g2
            have hdd : dd = .slice e := by cases dd <;> simp [TD.of] at g2; rw [g2]
            subst hdd
            have hzs := hoke.zsize
            obtain ⟨z1, z2⟩ := zeroRow_sound (σ := σ) (I := I) (w := w) h0 (by omega) (len * te.size)
            obtain ⟨ur, k1, k2, k3, k4⟩ := fillS_sound he hu z1 z2 hf
            have hurl : ur.length = len * te.size := by simpa using k4
            have hkill := h.frzW (cellIds cells)
            obtain ⟨l1, hvs⟩ := cellL_sound h.st (J := frozenI σ I S.obs (cellIds cells)) (fun _ hI => .inl hI) hls (fun i hi o b ho hl hb => .inr ⟨i, hi, o, ho, hl, hb⟩) k2
            let W := w.alloc (.cells ur.toArray e)
            have hw : Same w W := Same.alloc w _
            have hrun : (Instr.buildSlice t len us.toArray).run P w = .ok (.slice (some ⟨w.heap.size, 0, none⟩) len len) W := by
              have hn24 : ¬ (len * te.size > 2 ^ 24) := by omega
              simp only [Instr.buildSlice, Sem.run_bind, run_underlying g1, Result.andThen_ok, run_sizeOf' hoke, hn24, if_false]
              have harr : ∀ z : Array Value, (len * te.size = 0 ∨ z = te.zero.cells) → ((Array.range (len * te.size)).map fun x => z[x % z.size]!) = ((List.range (len * te.size)).map fun j => te.zero.cells[j % te.zero.cells.size]!).toArray := fun z hz => by
                rcases hz with hz | rfl
                · simp [hz, Array.range_zero']
                · apply Array.toList_inj.1
                  simp
              by_cases hz : len * te.size = 0
              · rw [if_pos hz]
                simp only [Sem.run_pure, Result.andThen_ok, harr #[] (.inl hz), k1, newRow, Sem.run_bind, run_newObj]
                rfl
              · rw [if_neg hz]
                simp only [Sem.run_bind, run_zero hoke, Sem.run_pure, Result.andThen_ok, harr te.zero.cells (.inr rfl), k1, newRow, run_newObj]
                rfl
            have hrow : W.ownsRow 0 e te.size (.slice (some ⟨w.heap.size, 0, none⟩) len len) len ur :=
              ⟨hurl, .inr ⟨w.heap.size, len, ur.toArray, rfl, Nat.zero_le _, heap_alloc_new w _, Nat.le_refl _, hml, by simpa using hurl, by simp [← hurl]⟩⟩
            rcases hLG with hK | hK
            case grid =>
              obtain ⟨S', hK, σ', hrel⟩ := litG_sound h hd k2 hrow hK
              exact ⟨_, W, S', _, _, hrun, hK, hrel⟩
            have hrel := hkill.snoc (w' := W) hw (b := some w.heap.size) (v := .slice (some ⟨w.heap.size, 0, none⟩) len len) (o := .row e te.size len (ls.all L.scal) fun k j => (ls[k * te.size + j]?).getD (.v undef))
              (fun y ey => by injection ey with ey; subst ey; exact ⟨Nat.le_refl _, by simp [W]⟩) (by
                refine ⟨.inr ⟨by simp [Asg.ext, Value.ownBlock], ur, by simpa [Asg.ext] using hrow, k3, fun k hk j hj => ?_⟩, fun hsc k j => ?_⟩
                · have hkj : k * te.size + j < ls.length := by
                    have h1 : (k + 1) * te.size ≤ len * te.size := Nat.mul_le_mul_right _ hk
                    rw [Nat.add_mul, Nat.one_mul] at h1
                    omega
                  obtain ⟨u, q1, q2⟩ := hvs (k * te.size + j) ls[k * te.size + j] (List.getElem?_eq_getElem hkj)
                  refine ⟨u, q1, ?_⟩
                  dsimp only
                  rw [List.getElem?_eq_getElem hkj]
                  exact L.rd_mono (hw.keeps hkill.st.imm) (fun _ h => h) q2
                · dsimp only
                  by_cases hlt : k * te.size + j < ls.length
                  · rw [List.getElem?_eq_getElem hlt]
                    exact List.all_eq_true.1 hsc _ (List.getElem_mem _)
                  · rw [List.getElem?_eq_none (by omega)]
                    rfl)
            have hc := h.st.cnt
            refine ⟨_, W, _, _, _, hrun, hK, hrel.put hd ?_⟩
            simp only [Den]
            exact ⟨by simp [Asg.ext, hc], by simp [Asg.ext, hc], rfl⟩
          · exact hs.elim
        · exact hs.elim
      · exact hs.elim
    · exact hs.elim
  · exact hs.elim

/-- a new slice of slices: a row, or (when its length is a numeral) a box -/
inductive MkG (z : Array Value) (nl nc : Int) (A : Prop) (B : Nat → Prop) : Prop where
  | row (h : A) : MkG z nl nc A B
  | box (m : Nat) (h1 : nl = m) (h2 : nc = m) (h3 : z = #[.slice none 0 0]) (h4 : 0 < m) (h : B m) : MkG z nl nc A B
def newSb (S : AS) (d : Option Tmp) (m : Nat) : AS := AS.put { S with obs := S.obs ++ [.box (List.replicate m (.c (.v (.slice none 0 0))))] } d (.sb S.obs.length m)
theorem newSb_sound (h : Rel w0 I0 S σ I tm w) {d : Option Tmp} (hd : ∀ t, d = some t → t < tm.size) {m : Nat} (hm : m ≤ maxLen) (ty : TypeId) :
    Rel w0 I0 (newSb S d m) (σ.ext (some w.heap.size) undef) I (putT tm d (.slice (some ⟨w.heap.size, 0, none⟩) m m)) (w.alloc (.cells (List.replicate m (Value.slice none 0 0)).toArray ty)) := by
  have hw : Same w (w.alloc (.cells (List.replicate m (Value.slice none 0 0)).toArray ty)) := Same.alloc w _
  have hden : ∀ n, DenL σ I w (List.replicate n (.c (.v (.slice none 0 0)))) (List.replicate n (Value.slice none 0 0)) := fun n => by
    induction n with
    | zero => simp [DenL]
    | succ n ih => simp only [List.replicate_succ, DenL, Den, L.rd]; exact ⟨_, _, rfl, ⟨rfl, rfl⟩, ih⟩
  have hrel := h.snoc (w' := w.alloc (.cells (List.replicate m (Value.slice none 0 0)).toArray ty)) hw (b := some w.heap.size) (v := undef) (o := .box (List.replicate m (.c (.v (.slice none 0 0))))) (fun x e => by injection e with e; subst e; simp) (by
    refine ⟨w.heap.size, List.replicate m (Value.slice none 0 0), ty, by simp [Asg.ext], heap_alloc_new w _, ?_, fun x hx => by rw [(List.mem_replicate.1 hx).2]; rfl⟩
    exact (hden m).mono (Asg.le_ext _ _ _) (hw.keeps h.st.imm) (fun _ h => h))
  refine hrel.put hd ?_
  simp only [Den]
  have hc := h.st.cnt
  exact ⟨by simp [Asg.ext, hc], w.heap.size, by simp [Asg.ext, hc], rfl, hm⟩

def makeE (T : Tab) (S : AS) (t : TypeId) (l c : AV) (d : Option Tmp) (K : AS → Prop) : Prop :=
  match tget T t with
  | some x => match x.td with
    | .slice e => match tget T e with
      | some te => match l, c with
        | .c (.v (.int _ nl)), .c (.v (.int _ nc)) => (∀ u ∈ te.zero.cells.toList, u.oneCell' = true) ∧ 0 ≤ nl ∧ nl ≤ nc ∧ (te.bytes : Int) * nc ≤ 281474976710656 ∧ nc ≤ 9223372036854775807 ∧ 0 < te.size ∧
            (match te.td with
            | .slice _ => MkG te.zero.cells nl nc (K (AS.put { S with obs := S.obs ++ [.row e te.size nl.toNat true fun _ j => .v (te.zero.cells.getD j undef)] } d (.own S.obs.length))) fun m => K (newSb S d m)
            | _ => K (AS.put { S with obs := S.obs ++ [.row e te.size nl.toNat true fun _ j => .v (te.zero.cells.getD j undef)] } d (.own S.obs.length)))
        | _, _ => False
      | none => False
    | _ => False
  | none => False

theorem makeE_sound (hT : TabOk P T) (h : Rel w0 I0 S σ I tm w) {t : TypeId} {l c : AV} {ul uc : Value} {d : Option Tmp} {K : AS → Prop} (hd : ∀ t, d = some t → t < tm.size)
    (hl : Den σ I w l ul) (hc : Den σ I w c uc) (hs : makeE T S t l c d K) : ∃ u w' S' σ' I', (Instr.makeSlice t ul uc).run P w = .ok u w' ∧ K S' ∧ Rel w0 I0 S' σ' I' (putT tm d u) w' := by
  unfold makeE at hs
  split at hs
  · rename_i x hx
    split at hs
    · rename_i e htd
      split at hs
      · rename_i te hte
        split at hs
        · rename_i kl nl kc nc
          obtain ⟨h0, hl0, hlc, hby, h63, hsz, hK⟩ := hs
          have hok := hT t x hx
          have hoke := hT e te hte
          obtain ⟨dd, ti, g1, g2, _⟩ := hok.get
          rw [htd] at g2
          have hdd : dd = .slice e := by cases dd <;> simp [TD.of] at g2; rw [g2]
          subst hdd
          obtain ⟨_, i, _, _, i1, i2, i3, i4⟩ := hoke.get
          simp only [Den, L.rd] at hl hc
          obtain ⟨rfl, _⟩ := hl
          obtain ⟨rfl, _⟩ := hc
          have hzs := hoke.zsize
          have hrun := run_make (P := P) w t e i te.zero g1 i1 i4 kl kc nl nc hl0 hlc (by rw [i3]; exact hby) h63
          rw [i2] at hrun
          have hbr : K (AS.put { S with obs := S.obs ++ [.row e te.size nl.toNat true fun _ j => .v (te.zero.cells.getD j undef)] } d (.own S.obs.length)) ∨ ∃ m : Nat, nl = m ∧ nc = m ∧ te.zero.cells = #[.slice none 0 0] ∧ 0 < m ∧ K (newSb S d m) := by
            split at hK
            · cases hK with
              | row h => exact .inl h
              | box m h1 h2 h3 h4 h => exact .inr ⟨m, h1, h2, h3, h4, h⟩
            · exact .inl hK
          clear hK
          rcases hbr with hK | ⟨m, rfl, rfl, hz1, hm0, hK⟩
          rotate_left
          · have hsz1 : te.size = 1 := by rw [← hzs, hz1]; rfl
            have hcells : madeCells te.zero.cells ((m : Int).toNat * te.size) = (List.replicate m (Value.slice none 0 0)).toArray := by
              apply Array.toList_inj.1
              rw [hsz1, hz1]
              simp only [madeCells, Array.toList_map, Array.toList_range, Int.toNat_natCast, Nat.mul_one]
              apply List.ext_getElem?
              intro k
              simp only [List.getElem?_map]
              by_cases hk : k < m
              · rw [List.getElem?_range hk, List.getElem?_replicate, if_pos hk]
                simp [Nat.mod_one]
              · rw [List.getElem?_eq_none (by simpa using hk), List.getElem?_replicate, if_neg hk]
                rfl
            rw [hcells] at hrun
            exact ⟨_, _, _, _, _, hrun, hK, newSb_sound h hd (by unfold maxLen; omega) e⟩
          let W := w.alloc (.cells (madeCells te.zero.cells (nc.toNat * te.size)) e)
          have hw : Same w W := Same.alloc w _
          have hxs : ∀ m, m < nc.toNat * te.size → (madeCells te.zero.cells (nc.toNat * te.size)).toList[m]? = some (te.zero.cells.getD (m % te.size) undef) := fun m hm => by
            have hlt : m % te.size < te.zero.cells.size := by rw [hzs]; exact Nat.mod_lt _ hsz
            simp only [madeCells, Array.toList_map, Array.toList_range, List.getElem?_map, List.getElem?_range hm, Option.map_some, hzs]
            rw [getElem!_pos te.zero.cells _ hlt]
            simp [Array.getD, hlt]
          have hnm : nl.toNat * te.size ≤ nc.toNat * te.size := Nat.mul_le_mul_right _ (by omega)
          have hrow : W.ownsRow 0 e te.size (.slice (some ⟨w.heap.size, 0, none⟩) nl.toNat nc.toNat) nl.toNat ((madeCells te.zero.cells (nc.toNat * te.size)).toList.take (nl.toNat * te.size)) :=
            ⟨by rw [List.length_take, Array.length_toList, size_madeCells, Nat.min_eq_left hnm], .inr ⟨w.heap.size, nc.toNat, _, rfl, Nat.zero_le _, heap_alloc_new w _, by omega, by simp only [maxLen]; omega, size_madeCells _ _, rfl⟩⟩
          have hone : ∀ m, (te.zero.cells.getD (m % te.size) undef).oneCell' = true := fun m => by
            have hlt : m % te.size < te.zero.cells.size := by rw [hzs]; exact Nat.mod_lt _ hsz
            refine h0 _ ?_
            simp [Array.getD, hlt]
          have hrel := h.snoc (w' := W) hw (b := some w.heap.size) (v := .slice (some ⟨w.heap.size, 0, none⟩) nl.toNat nc.toNat) (o := .row e te.size nl.toNat true fun _ j => .v (te.zero.cells.getD j undef))
            (fun y ey => by injection ey with ey; subst ey; exact ⟨Nat.le_refl _, by simp [W]⟩) (by
              refine ⟨.inr ⟨by simp [Asg.ext, Value.ownBlock], _, by simpa [Asg.ext] using hrow, fun v hv => ?_, fun k hk j hj => ?_⟩, fun _ k j => rfl⟩
              · obtain ⟨m, hm⟩ := List.mem_iff_getElem?.1 hv
                rw [List.getElem?_take] at hm
                split at hm
                · rename_i hlt
                  rw [hxs m (by omega)] at hm
                  injection hm with hm
                  rw [← hm]
                  exact hone m
                · cases hm
              · have hkj : k * te.size + j < nl.toNat * te.size := by
                  have h1 : (k + 1) * te.size ≤ nl.toNat * te.size := Nat.mul_le_mul_right _ hk
                  rw [Nat.add_mul, Nat.one_mul] at h1
                  omega
                have hmod : (k * te.size + j) % te.size = j := by rw [Nat.mul_comm, Nat.mul_add_mod]; exact Nat.mod_eq_of_lt hj
                refine ⟨te.zero.cells.getD j undef, ?_, ?_⟩
                · rw [List.getElem?_take, if_pos hkj, hxs _ (by omega), hmod]
                · simp only [L.rd]
                  refine ⟨trivial, ?_⟩
                  have := hone j
                  rwa [Nat.mod_eq_of_lt hj] at this)
          have hcn := h.st.cnt
          refine ⟨_, W, _, _, _, hrun, hK, hrel.put hd ?_⟩
          simp only [Den]
          exact ⟨by simp [Asg.ext, hcn], by simp [Asg.ext, hcn], rfl⟩
        · exact hs.elim
      · exact hs.elim
    · exact hs.elim
  · exact hs.elim

/-- a string's bytes -/
def convE (T : Tab) (S : AS) (src dst : TypeId) (x : AV) (d : Option Tmp) (K : AS → Prop) : Prop :=
  match tget T src, tget T dst with
  | some a, some b => match a.td, b.td with
    | .str, .slice e => match tget T e with
      | some te => match te.td with
        | .int k => match x with
          | .c (.v (.string s)) => k = .u8 ∧ s.size ≤ maxLen ∧ K (S.put d (.c (.sl 1 s.size fun i _ => .v (.int .u8 (strB s i)))))
          | _ => False
        | _ => False
      | none => False
    | _, _ => False
  | _, _ => False

theorem TE.ok.td {t : TypeId} {x : TE} (h : x.ok P t) {D : TypeDesc} (hd : x.td = TD.of D) (hs : ∀ F, D ≠ .struct F) (hone : TD.of D ≠ .one) : P.underlying t = some D := by
  obtain ⟨d, _, g1, g2, _⟩ := h.get
  rw [g1]
  congr 1
  rw [hd] at g2
  cases d <;> cases D <;> simp_all [TD.of]

theorem convE_sound (hT : TabOk P T) (h : Rel w0 I0 S σ I tm w) {src dst : TypeId} {x : AV} {ux : Value} {d : Option Tmp} {K : AS → Prop} (hd : ∀ t, d = some t → t < tm.size)
    (hx : Den σ I w x ux) (hs : convE T S src dst x d K) : ∃ u w' S' σ' I', (convert src dst ux).run P w = .ok u w' ∧ K S' ∧ Rel w0 I0 S' σ' I' (putT tm d u) w' := by
  unfold convE at hs
  split at hs
  · rename_i ta tb ha hb
    split at hs
    · rename_i e h1 h2
      split at hs
      · rename_i te hte
        split at hs
        · rename_i k hk
          split at hs
          · rename_i s
            obtain ⟨rfl, hsz, hK⟩ := hs
            simp only [Den, L.rd] at hx
            obtain ⟨rfl, _⟩ := hx
            have u1 : P.underlying src = some .string := (hT src ta ha).td (D := .string) h1 (fun F => by simp) (by simp [TD.of])
            have u2 : P.underlying dst = some (.slice e) := (hT dst tb hb).td (D := .slice e) h2 (fun F => by simp) (by simp [TD.of])
            have u3 : P.underlying e = some (.int .u8) := (hT e te hte).td (D := .int .u8) hk (fun F => by simp) (by simp [TD.of])
            have hrun := run_bytes_of_string (P := P) w src dst e s u1 u2 u3
            generalize hcap : grownCap w s.size 0 e = cap at hrun
            generalize hob : Obj.cells (bytesRow s cap) e ((bytesRow s cap).size, (bytesRow s cap).size + 1) = ob at hrun
            have hw : Same w (w.drew.alloc ob) := (Same.drew w).trans (Same.alloc _ _)
            have hrel := h.same hw
            have hnew : (w.drew.alloc ob).heap[w.heap.size]? = some ob := by
              show (w.heap.push ob)[w.heap.size]? = _
              simp
            let J : Nat → Prop := fun b => I b ∨ b = w.heap.size
            have hst : Store σ J (w.drew.alloc ob) w0.F S.obs := hrel.st.moreI (fun b hb => .inl hb) (fun b hb => by
              rcases hb with hb | rfl
              · exact hrel.st.imm b hb
              · simp) fun i o b e hl hb => by
                have := h.st.freshH i o b e hl hb
                rintro (hI | rfl)
                · exact this.2.1 hI
                · omega
            have hrel' : Rel w0 I0 S σ J tm (w.drew.alloc ob) := ⟨hrel.same0, hst, fun t => (hrel.fr t).mono (Asg.le_refl σ) (Keeps.refl _ _) (fun _ hb => .inl hb), fun b hb => .inl (hrel.i1 b hb), fun b hb => by
              rcases hb with hb | rfl
              · exact hrel.i2 b hb
              · exact .inr (h.hB _ (Nat.le_refl _)), hrel.sz⟩
            refine ⟨_, _, _, σ, J, hrun, hK, hrel'.put hd ?_⟩
            simp only [Den, L.rd]
            refine ⟨some ⟨w.heap.size, 0, none⟩, cap, rfl, by rw [← hcap]; exact grownCap_ge _ _ _ _, by rw [← hcap]; exact grownCap_le_maxLen _ _ _ _ hsz, fun _ => ⟨_, rfl, .inr rfl, fun i hi j hj => ?_⟩⟩
            obtain rfl : j = 0 := by omega
            have hlt : i < s.data.size := hi
            refine ⟨.int .u8 (strB s i), ?_, rfl, rfl⟩
            rw [add_lit, show 0 + (i * 1 + 0) = i from by omega, ← hob] at *
            rw [cell_at hnew]
            rw [bytesRow_at s cap i hlt]
            simp [strB, hi]
            rfl
          · exact hs.elim
        · exact hs.elim
      · exact hs.elim
    · exact hs.elim
  · exact hs.elim

structure Both (A B : Prop) : Prop where
  a : A
  b : B
/-- what is appended -/
def srcV (S : AS) (sz0 : Nat) : AV → Option (Nat × Nat × Bool × (Nat → Nat → L))
  | .c (.sl sz m g) => some (m, sz, false, g)
  | .own j => match S.obs[j]? with
    | some (.row _ sz m sc g) => some (m, sz, sc, g)
    | _ => none
  | .ov j sz lo m => match S.obs[j]? with
    | some (.row _ sz' _ sc g) => if sz' = sz then some (m, sz, sc, fun k j => g (lo + k) j) else none
    | _ => none
  | .c (.v (.slice none 0 0)) => some (0, sz0, true, fun _ _ => .v undef)
  | _ => none

/-- a grid appended to a grid -/
def gridsOf (S : AS) (s x : AV) : Option (Nat × Nat × (Nat × Nat × Nat × (Nat → Nat → Value)) × (Nat × Nat × Nat × (Nat → Nat → Value))) :=
  match s with
  | .own i => match S.obs[i]? with
    | some (.grid e n m f) => match x with
      | .own j => match S.obs[j]? with
        | some (.grid e' n' m' f') => some (i, j, (e, n, m, f), (e', n', m', f'))
        | _ => none
      | _ => none
    | _ => none
  | _ => none
def appG (T : Tab) (S : AS) (t : TypeId) (i j : Nat) (e n m : Nat) (f : Nat → Nat → Value) (e' n' m' : Nat) (f' : Nat → Nat → Value) (d : Option Tmp) (K : AS → Prop) : Prop :=
  match tget T t with
  | some te0 => match te0.td with
    | .slice e0 => match tget T e0 with
      | some te => te.size = 1 ∧ 0 < te.bytes ∧ e = e0 ∧ e' = e0 ∧ m' = m ∧ (i == j) = false ∧ 0 < n' ∧ (n + n') * te.bytes ≤ 140737488355328 ∧
          K (AS.put { S with obs := (S.obs.set i .dead).set j .dead ++ [.grid e (n + n') m fun k q => if k < n then f k q else f' (k - n) q] } d (.own S.obs.length))
      | none => False
    | _ => False
  | none => False
def appE (T : Tab) (S : AS) (t t' : TypeId) (s x : AV) (d : Option Tmp) (K : AS → Prop) : Prop :=
  t' = t ∧ match gridsOf S s x with
  | some (i, j, (e, n, m, f), (e', n', m', f')) => appG T S t i j e n m f e' n' m' f' d K
  | none => match tget T t with
  | some te0 => match te0.td with
    | .slice e => match tget T e with
      | some te => match srcV S te.size x with
        | some (m, szx, scx, g) => szx = te.size ∧ 0 < te.size ∧ 0 < te.bytes ∧ match s with
          | .c (.v (.slice none 0 0)) => m * te.bytes ≤ 140737488355328 ∧ K (AS.put { S with obs := S.obs ++ [.row e te.size m scx g] } d (.own S.obs.length))
          | .own i => match S.obs[i]? with
            | some (.row e' sz n sc f) => e' = e ∧ sz = te.size ∧ (n + m) * te.bytes ≤ 140737488355328 ∧
                K (AS.put { S with obs := S.obs.set i .dead ++ [.row e te.size (n + m) (sc && scx) fun k j => if k < n then f k j else g (k - n) j] } d (.own S.obs.length))
            | _ => False
          | .cp sz n f => sz = te.size ∧ (n = 0 ∨ 0 < m) ∧ (n + m) * te.bytes ≤ 140737488355328 ∧
                K (AS.put { S with obs := S.obs ++ [.row e te.size (n + m) false fun k j => if k < n then f k j else g (k - n) j] } d (.own S.obs.length))
          | .ov i sz lo n0 => match S.obs[i]? with
            | some (.row e' sz' n sc f) => e' = e ∧ sz = te.size ∧ sz' = te.size ∧ lo + n0 = n ∧ 0 < m ∧ (n + m) * te.bytes ≤ 140737488355328 ∧
                Both (K (AS.put { S with obs := S.obs.set i .dead ++ [.row e te.size (n0 + m) (sc && scx) fun k j => if k < n0 then f (lo + k) j else g (k - n0) j] } d (.ov S.obs.length sz 0 (n0 + m))))
                  (K (AS.put { S with obs := S.obs.set i .dead ++ [.row e te.size (n + m) (sc && scx) fun k j => if k < n then f k j else g (k - n) j] } d (.ov S.obs.length sz lo (n0 + m))))
            | _ => False
          | _ => False
        | none => False
      | none => False
    | _ => False
  | none => False

theorem run_append_of_nil (base : Nat) (t ty e : TypeId) (i : TypeInfo) (size : Nat) (ht : P.underlying t = some (.slice e)) (hi : P.info? e = some i)
    (v : Value) (n : Nat) (xs : List Value) (hown : w.ownsRow base e size v n xs) (c : Nat) : (Builtin.append_ #[t, t] ty #[v, .slice none 0 c]).run P w = .ok v w := by
  rcases hown.2 with ⟨rfl, rfl⟩ | ⟨g, cap, cur, rfl, _, _, hnc, _⟩
  · simp [Builtin.append_, run_underlying ht, sizeOf, typeInfo, hi, Builtin.lenOf, Builtin.firstCells]
  · simp [Builtin.append_, run_underlying ht, sizeOf, typeInfo, hi, Builtin.lenOf, Builtin.firstCells, hnc, storeCells]

theorem run_app {t ty e : TypeId} {te : TE} (hoke : te.ok P e) (ht : P.underlying t = some (.slice e)) {v : Value} {n : Nat} {xs : List Value} (hown : w.ownsRow 0 e te.size v n xs)
    {A : Option Addr} {m cap : Nat} {news : List Value} (hl : news.length = m * te.size) (hA : 0 < m → ∃ a, A = some a ∧ ∀ j u, news[j]? = some u → w.cell? (a.add j) = some u) (h1 : ∀ u ∈ news, u.oneCell' = true)
    (hsz : 0 < te.size) (hby : 0 < te.bytes) (hbytes : (n + m) * te.bytes ≤ 140737488355328) :
    ∃ v' w', (Builtin.append_ #[t, t] ty #[v, .slice A m cap]).run P w = .ok v' w' ∧ w'.ownsRow 0 e te.size v' (n + m) (xs ++ news) ∧ w.grownBy w' v.ownBlock ∧ (v'.ownBlock = v.ownBlock ∨ v'.ownBlock = some w.heap.size) := by
  obtain ⟨_, i, _, _, i1, i2, i3, i4⟩ := hoke.get
  cases A with
  | none =>
    have hm : m = 0 := by
      rcases Nat.eq_zero_or_pos m with h0 | h0
      · exact h0
      · obtain ⟨a, ha, _⟩ := hA h0
        cases ha
    subst hm
    have hn : news = [] := List.eq_nil_of_length_eq_zero (by simpa using hl)
    subst hn
    exact ⟨v, w, run_append_of_nil 0 t ty e i te.size ht i1 v n xs hown cap, by simpa using hown, World.grownBy.refl w _, .inl rfl⟩
  | some ad =>
    have hcells : ∀ j u, news[j]? = some u → w.cell? (ad.add j) = some u := by
      rcases Nat.eq_zero_or_pos m with h0 | h0
      · subst h0
        have hn : news = [] := List.eq_nil_of_length_eq_zero (by simpa using hl)
        subst hn
        intro j u hu
        simp at hu
      · obtain ⟨a, ha, hc⟩ := hA h0
        injection ha with ha; subst ha
        exact hc
    have h63 : n + m ≤ maxLen := by
      have : (n + m) * 1 ≤ (n + m) * te.bytes := Nat.mul_le_mul_left _ hby
      simp only [maxLen]
      omega
    obtain ⟨v', w', hrun, h2, h3, _, h5⟩ := run_append_own_at (P := P) w 0 t ty e i te.zero te.size te.bytes ht i1 i4 i2 i3 hoke.zsize hsz v n xs hown ad m cap news hl hcells h1 h63 hbytes (Nat.zero_le _)
    exact ⟨v', w', hrun, h2, h3, h5⟩

/-- append onto a slice without spare room -/
theorem run_appB {t ty e : TypeId} {te : TE} (hoke : te.ok P e) (ht : P.underlying t = some (.slice e)) {A' : Option Addr} {n : Nat} {olds : List Value} (hlo : olds.length = n * te.size)
    (holds : 0 < n → ∃ a, A' = some a ∧ ∀ j u, olds[j]? = some u → w.cell? (a.add j) = some u) {A : Option Addr} {m cap : Nat} {news : List Value} (hl : news.length = m * te.size)
    (hA : 0 < m → ∃ a, A = some a ∧ ∀ j u, news[j]? = some u → w.cell? (a.add j) = some u) (h1 : ∀ u ∈ news, u.oneCell' = true)
    (hsz : 0 < te.size) (hby : 0 < te.bytes) (hbytes : (n + m) * te.bytes ≤ 140737488355328) (h0 : n = 0 ∨ 0 < m) :
    (m = 0 ∧ n = 0 ∧ (Builtin.append_ #[t, t] ty #[.slice A' n n, .slice A m cap]).run P w = .ok (.slice A' 0 0) w) ∨
    ∃ v' w', (Builtin.append_ #[t, t] ty #[.slice A' n n, .slice A m cap]).run P w = .ok v' w' ∧ w'.ownsRow 0 e te.size v' (n + m) (olds ++ news) ∧ w.grownBy w' none ∧ ∀ x, v'.ownBlock = some x → w.heap.size ≤ x := by
  obtain ⟨_, i, _, _, i1, i2, i3, i4⟩ := hoke.get
  have h63 : n + m ≤ maxLen := by
    have : (n + m) * 1 ≤ (n + m) * te.bytes := Nat.mul_le_mul_left _ hby
    simp only [maxLen]
    omega
  rcases Nat.eq_zero_or_pos m with hm | hm
  · subst hm
    obtain rfl : n = 0 := by omega
    refine .inl ⟨rfl, rfl, ?_⟩
    cases A with
    | none => cases A' <;> simp [Builtin.append_, run_underlying ht, sizeOf, typeInfo, i1, Builtin.lenOf, Builtin.firstCells, storeCells]
    | some a => cases A' <;> simp [Builtin.append_, run_underlying ht, sizeOf, typeInfo, i1, Builtin.lenOf, Builtin.firstCells, storeCells, loadCells, loadCellsFrom]
  · obtain ⟨a, rfl, hc⟩ := hA hm
    refine .inr ?_
    cases A' with
    | some b =>
      have ho : ∀ j u, olds[j]? = some u → w.cell? (b.add j) = some u := by
        rcases Nat.eq_zero_or_pos n with hn | hn
        · subst hn
          have : olds = [] := List.eq_nil_of_length_eq_zero (by simpa using hlo)
          subst this
          intro j u hu; simp at hu
        · obtain ⟨a', ea, hc'⟩ := holds hn
          injection ea with ea; subst ea
          exact hc'
      obtain ⟨v', w', hrun, r1, r2⟩ := run_append_arg_grows (P := P) w t ty e i te.zero te.size te.bytes ht i1 i4 i2 i3 hoke.zsize hsz b n n olds hlo ho a m cap news hl hc (by omega) h63 hbytes
      refine ⟨v', w', hrun, ⟨r1.1, ?_⟩, r2, fun x hx => (r1.lt x hx).1⟩
      rcases r1.2 with q | ⟨g, c, cur, q1, q2, q3⟩
      · exact .inl q
      · exact .inr ⟨g, c, cur, q1, Nat.zero_le _, q3⟩
    | none =>
      have hn : n = 0 := by
        rcases Nat.eq_zero_or_pos n with hn | hn
        · exact hn
        · obtain ⟨a', ea, _⟩ := holds hn; cases ea
      subst hn
      have : olds = [] := List.eq_nil_of_length_eq_zero (by simpa using hlo)
      subst this
      obtain ⟨v', w', hrun, r1, r2, _, r3⟩ := run_append_own_at (P := P) w 0 t ty e i te.zero te.size te.bytes ht i1 i4 i2 i3 hoke.zsize hsz (.slice none 0 0) 0 [] (World.ownsRow_nil w 0 e te.size) a m cap news hl hc h1 h63 hbytes (Nat.zero_le _)
      refine ⟨v', w', hrun, r1, r2, fun x hx => ?_⟩
      rcases r3 with r3 | r3
      · rw [r3] at hx; cases hx
      · rw [r3] at hx; injection hx with hx; omega

/-- append beyond the room: a new block -/
theorem run_appG {t ty e : TypeId} {te : TE} (hoke : te.ok P e) (ht : P.underlying t = some (.slice e)) {A' : Option Addr} {n cap0 : Nat} {olds : List Value} (hlo : olds.length = n * te.size)
    (holds : 0 < n → ∃ a, A' = some a ∧ ∀ j u, olds[j]? = some u → w.cell? (a.add j) = some u) (hnone : A' = none → cap0 = 0 ∧ n = 0) {A : Option Addr} {m cap : Nat} {news : List Value} (hl : news.length = m * te.size)
    (hA : 0 < m → ∃ a, A = some a ∧ ∀ j u, news[j]? = some u → w.cell? (a.add j) = some u) (h1 : ∀ u ∈ news, u.oneCell' = true)
    (hsz : 0 < te.size) (hby : 0 < te.bytes) (hbytes : (n + m) * te.bytes ≤ 140737488355328) (hm : 0 < m) (hg : cap0 < n + m) :
    ∃ v' w', (Builtin.append_ #[t, t] ty #[.slice A' n cap0, .slice A m cap]).run P w = .ok v' w' ∧ w'.ownsRow 0 e te.size v' (n + m) (olds ++ news) ∧ w.grownBy w' none ∧ ∀ x, v'.ownBlock = some x → w.heap.size ≤ x := by
  obtain ⟨_, i, _, _, i1, i2, i3, i4⟩ := hoke.get
  have h63 : n + m ≤ maxLen := by
    have : (n + m) * 1 ≤ (n + m) * te.bytes := Nat.mul_le_mul_left _ hby
    simp only [maxLen]
    omega
  obtain ⟨a, rfl, hc⟩ := hA hm
  cases A' with
  | some b =>
    have ho : ∀ j u, olds[j]? = some u → w.cell? (b.add j) = some u := by
      rcases Nat.eq_zero_or_pos n with hn | hn
      · subst hn
        have : olds = [] := List.eq_nil_of_length_eq_zero (by simpa using hlo)
        subst this
        intro j u hu; simp at hu
      · obtain ⟨a', ea, hc'⟩ := holds hn
        injection ea with ea; subst ea
        exact hc'
    obtain ⟨v', w', hrun, r1, r2⟩ := run_append_arg_grows (P := P) w t ty e i te.zero te.size te.bytes ht i1 i4 i2 i3 hoke.zsize hsz b n cap0 olds hlo ho a m cap news hl hc hg h63 hbytes
    refine ⟨v', w', hrun, ⟨r1.1, ?_⟩, r2, fun x hx => (r1.lt x hx).1⟩
    rcases r1.2 with q | ⟨g, c, cur, q1, q2, q3⟩
    · exact .inl q
    · exact .inr ⟨g, c, cur, q1, Nat.zero_le _, q3⟩
  | none =>
    obtain ⟨rfl, rfl⟩ := hnone rfl
    have : olds = [] := List.eq_nil_of_length_eq_zero (by simpa using hlo)
    subst this
    obtain ⟨v', w', hrun, r1, r2, _, r3⟩ := run_append_own_at (P := P) w 0 t ty e i te.zero te.size te.bytes ht i1 i4 i2 i3 hoke.zsize hsz (.slice none 0 0) 0 [] (World.ownsRow_nil w 0 e te.size) a m cap news hl hc h1 h63 hbytes (Nat.zero_le _)
    refine ⟨v', w', hrun, r1, r2, fun x hx => ?_⟩
    rcases r3 with r3 | r3
    · rw [r3] at hx; cases hx
    · rw [r3] at hx; injection hx with hx; omega
theorem setCells_ne (b : Nat) : ∀ (vs : List Value) (o : Nat) (w : World) (x : Nat), x ≠ b → (w.setCells b o vs).heap[x]? = w.heap[x]?
  | [], _, _, _, _ => rfl
  | v :: r, o, w, x, h => by
    rw [World.setCells, setCells_ne b r (o + 1) _ x h]
    show (w.heap.modify b _)[x]? = _
    rw [Array.getElem?_modify, if_neg (fun e => h e.symm)]
theorem setCells_rest (b : Nat) : ∀ (vs : List Value) (o : Nat) (w : World), (w.setCells b o vs).os = w.os ∧ (w.setCells b o vs).tape = w.tape ∧ (w.setCells b o vs).output = w.output ∧ (w.setCells b o vs).heap.size = w.heap.size
  | [], _, _ => ⟨rfl, rfl, rfl, rfl⟩
  | v :: r, o, w => by
    rw [World.setCells]
    obtain ⟨h1, h2, h3, h4⟩ := setCells_rest b r (o + 1) (w.setCell ⟨b, o, none⟩ v)
    refine ⟨h1, h2, h3, h4.trans ?_⟩
    show (w.heap.modify b _).size = _
    rw [Array.size_modify]
theorem setCells_at (b : Nat) : ∀ (vs : List Value) (o : Nat) (w : World) (cur : Array Value) (e : TypeId) (fr : Nat × Nat), w.heap[b]? = some (.cells cur e fr) → o + vs.length ≤ cur.size →
    ∃ cur', (w.setCells b o vs).heap[b]? = some (.cells cur' e fr) ∧ cur'.size = cur.size ∧ ∀ m, cur'[m]? = if o ≤ m ∧ m < o + vs.length then vs[m - o]? else cur[m]?
  | [], o, w, cur, e, fr, h, _ => ⟨cur, h, rfl, fun m => (if_neg (by simp only [List.length_nil]; omega)).symm⟩
  | v :: r, o, w, cur, e, fr, h, hl => by
    have hl' : o + 1 + r.length ≤ cur.size := by simp at hl; omega
    have h1 : (w.setCell ⟨b, o, none⟩ v).heap[b]? = some (.cells (cur.setIfInBounds o v) e fr) := by
      show (w.heap.modify b _)[b]? = _
      rw [Array.getElem?_modify, if_pos rfl, h]
      rfl
    obtain ⟨cur', c1, c2, c3⟩ := setCells_at b r (o + 1) (w.setCell ⟨b, o, none⟩ v) _ e fr h1 (by simpa using hl')
    refine ⟨cur', c1, by simpa using c2, fun m => ?_⟩
    rw [c3]
    by_cases hm : m = o
    · subst hm
      rw [if_neg (by omega), if_pos ⟨Nat.le_refl _, by simp⟩, Nat.sub_self, Array.getElem?_setIfInBounds, if_pos rfl, if_pos (by simp at hl; omega)]
      rfl
    · by_cases h2 : o + 1 ≤ m ∧ m < o + 1 + r.length
      · rw [if_pos h2, if_pos ⟨by omega, by simp; omega⟩]
        have h3 : m - o = (m - (o + 1)) + 1 := by omega
        rw [h3]
        rfl
      · rw [if_neg h2, if_neg (by simp; omega), Array.getElem?_setIfInBounds, if_neg (fun e => hm e.symm)]
/-- a row whose header has room: its block -/
theorem RowRel.at' {i e sz n : Nat} {f : Nat → Nat → L} (h : RowRel σ I w i e sz n f) {b m C : Nat} (e0 : σ.hdr i = .slice (some ⟨b, 0, none⟩) m C) (hC : 0 < C) :
    m = n ∧ σ.blk i = some b ∧ ∃ cur xs, w.heap[b]? = some (.cells cur e (0, 0)) ∧ n ≤ C ∧ C ≤ maxLen ∧ cur.size = C * sz ∧ cur.toList.take (n * sz) = xs ∧ xs.length = n * sz ∧
      (∀ x ∈ xs, x.oneCell' = true) ∧ (∀ k, k < n → ∀ j, j < sz → ∃ c, xs[k * sz + j]? = some c ∧ (f k j).rd w I c) := by
  rcases h with ⟨h0, ⟨A', hA⟩, _⟩ | ⟨h0, xs, h1, h2, h3⟩
  · rw [hA] at e0; injection e0 with _ _ e0; omega
  · rcases h1.2 with ⟨e1, _⟩ | ⟨g, cap', cur, e1, _, e3, e4, e5, e6, e7⟩
    · rw [e1] at e0; cases e0
    · rw [e1] at e0
      injection e0 with a1 a2 a3
      injection a1 with a1
      injection a1 with a1
      subst a1 a2 a3
      exact ⟨rfl, by rw [← h0, e1]; rfl, cur, xs, e3, e4, e5, e6, e7, h1.1, h2, h3⟩

theorem sl_cells {sz m : Nat} {g : Nat → Nat → L} {u : Value} (hsz : 0 < sz) (hr : (L.sl sz m g).rd w I u) :
    ∃ A cap news, u = .slice A m cap ∧ List.length news = m * sz ∧ (0 < m → ∃ a : Addr, A = some a ∧ ∀ j u, news[j]? = some u → w.cell? (a.add j) = some u) ∧ (∀ u ∈ news, u.oneCell' = true) ∧
      (∀ k, k < m → ∀ j, j < sz → ∃ c, news[k * sz + j]? = some c ∧ (g k j).rd w I c) := by
  simp only [L.rd] at hr
  obtain ⟨A, cap, rfl, _, _, hA⟩ := hr
  rcases Nat.eq_zero_or_pos m with h0 | h0
  · subst h0
    exact ⟨A, cap, [], rfl, by simp, fun h => absurd h (Nat.lt_irrefl 0), fun u hu => by simp at hu, fun k hk => absurd hk (Nat.not_lt_zero k)⟩
  · obtain ⟨a, rfl, hI, hc⟩ := hA h0
    obtain ⟨us, hl, hu⟩ := cells_of (w := w) (I := I) (n := m * sz) (f := fun q => g (q / sz) (q % sz)) (a := a) fun q hq => by
      have hk : q / sz < m := by rwa [Nat.div_lt_iff_lt_mul hsz]
      obtain ⟨c, e1, e2⟩ := hc (q / sz) hk (q % sz) (Nat.mod_lt _ hsz)
      refine ⟨c, ?_, e2⟩
      rwa [Nat.mul_comm, Nat.div_add_mod] at e1
    refine ⟨_, cap, us, rfl, hl, fun _ => ⟨a, rfl, fun j u e => (hu j u e).1⟩, fun u hu' => ?_, fun k hk j hj => ?_⟩
    · obtain ⟨q, hq⟩ := List.mem_iff_getElem?.1 hu'
      exact L.rd_one (hu q u hq).2
    · have hq : k * sz + j < us.length := by
        have h1 : (k + 1) * sz ≤ m * sz := Nat.mul_le_mul_right _ hk
        rw [Nat.add_mul, Nat.one_mul] at h1
        omega
      refine ⟨us[k * sz + j], List.getElem?_eq_getElem hq, ?_⟩
      have := (hu _ _ (List.getElem?_eq_getElem hq)).2
      have d1 : (k * sz + j) / sz = k := by rw [Nat.mul_comm, Nat.mul_add_div hsz, Nat.div_eq_of_lt hj]; rfl
      have d2 : (k * sz + j) % sz = j := by rw [Nat.mul_comm, Nat.mul_add_mod]; exact Nat.mod_eq_of_lt hj
      rwa [d1, d2] at this

theorem srcV_sound (h : Rel w0 I0 S σ I tm w) {x : AV} {ux : Value} (hx : Den σ I w x ux) {sz0 m sz : Nat} {sc : Bool} {g : Nat → Nat → L} (hs : srcV S sz0 x = some (m, sz, sc, g)) (hsz : 0 < sz) :
    ∃ A cap news, ux = .slice A m cap ∧ List.length news = m * sz ∧ (0 < m → ∃ a : Addr, A = some a ∧ ∀ j u, news[j]? = some u → w.cell? (a.add j) = some u) ∧ (∀ u ∈ news, u.oneCell' = true) ∧
      (∀ k, k < m → ∀ j, j < sz → ∃ c, news[k * sz + j]? = some c ∧ (g k j).rd w I c) ∧ (sc = true → ∀ k j, (g k j).scal = true) := by
  unfold srcV at hs
  split at hs
  · injection hs with hs; injection hs with e1 hs; injection hs with e2 hs; injection hs with e3 e4
    subst e1 e2 e3 e4
    simp only [Den] at hx
    obtain ⟨A, cap, news, h1, h2, h3, h4, h5⟩ := sl_cells hsz hx
    exact ⟨A, cap, news, h1, h2, h3, h4, h5, fun h => by cases h⟩
  · rename_i i
    split at hs
    · rename_i e sz' m' sc' g' ho
      injection hs with hs; injection hs with e1 hs; injection hs with e2 hs; injection hs with e3 e4
      subst e1 e2 e3 e4
      simp only [Den] at hx
      obtain ⟨_, rfl, _⟩ := hx
      obtain ⟨hrr, h3⟩ := h.st.obj i _ ho
      rcases Nat.eq_zero_or_pos m' with h0 | h0
      · obtain ⟨A, cap, e1, _⟩ := hrr.len
        subst h0
        exact ⟨A, cap, [], e1, by simp, fun h => absurd h (Nat.lt_irrefl 0), fun u hu => by simp at hu, fun k hk => absurd hk (Nat.not_lt_zero k), h3⟩
      · obtain ⟨b, cap, cur, xs, hh, _, _, _, _, _, _, hxl, h1, h2, hc⟩ := hrr.at h0
        exact ⟨_, cap, xs, hh, hxl, fun _ => ⟨_, rfl, fun j u hu => by rw [add_lit, Nat.zero_add]; exact hc j u hu⟩, h1, h2, h3⟩
    · cases hs
  · rename_i i sz2 lo m2
    split at hs
    · rename_i e sz' m' sc' g' ho
      split at hs
      · rename_i hsz'
        subst hsz'
        injection hs with hs; injection hs with e1 hs; injection hs with e2 hs; injection hs with e3 e4
        subst e1 e2 e3 e4
        simp only [Den] at hx
        obtain ⟨_, A, cap, rfl, hnc, _, hA⟩ := hx
        obtain ⟨hrr, h3⟩ := h.st.obj i _ ho
        rcases Nat.eq_zero_or_pos m2 with h0 | h0
        · subst h0
          exact ⟨A, cap, [], rfl, by simp, fun h => absurd h (Nat.lt_irrefl 0), fun u hu => by simp at hu, fun k hk => absurd hk (Nat.not_lt_zero k), fun hsc k j => h3 hsc _ _⟩
        · obtain ⟨b, M, C, q1, rfl, q3, _⟩ := hA (by clear hA; omega)
          clear hA
          obtain ⟨A', C', e1, _⟩ := hrr.len
          rw [q1] at e1
          injection e1 with _ e1 _
          obtain ⟨b', cap', cur, xs, hh, _, _, _, _, _, _, hxl, h1, h2, hc⟩ := hrr.at (by omega)
          rw [q1] at hh
          injection hh with hh
          injection hh with hh
          injection hh with hh
          subst hh
          have hmul : (lo + m2) * sz' ≤ m' * sz' := Nat.mul_le_mul_right _ (by omega)
          rw [Nat.add_mul] at hmul
          have hnews : ∀ j, j < m2 * sz' → ((xs.drop (lo * sz')).take (m2 * sz'))[j]? = xs[lo * sz' + j]? := fun j hj => by
            rw [List.getElem?_take, if_pos hj, List.getElem?_drop]
          refine ⟨_, cap, (xs.drop (lo * sz')).take (m2 * sz'), rfl, by simp; omega, fun _ => ⟨_, rfl, fun j u hu => ?_⟩, fun u hu => h1 u (List.mem_of_mem_drop (List.mem_of_mem_take hu)), fun k hk j hj => ?_, fun hsc k j => h3 hsc _ _⟩
          · rw [add_lit]
            refine hc _ _ ?_
            have hj : j < m2 * sz' := by
              have := (List.getElem?_eq_some_iff.1 hu).1
              simp at this
              omega
            rw [← hnews j hj]; exact hu
          · have hkj : k * sz' + j < m2 * sz' := by
              have h1 : (k + 1) * sz' ≤ m2 * sz' := Nat.mul_le_mul_right _ hk
              rw [Nat.add_mul, Nat.one_mul] at h1
              omega
            obtain ⟨c, r1, r2⟩ := h2 (lo + k) (by omega) j hj
            refine ⟨c, ?_, r2⟩
            rw [hnews _ hkj, ← r1]
            congr 1
            rw [Nat.add_mul]
            omega
      · cases hs
    · cases hs
  · injection hs with hs; injection hs with e1 hs; injection hs with e2 hs; injection hs with e3 e4
    subst e1 e2 e3 e4
    simp only [Den, L.rd] at hx
    obtain ⟨rfl, _⟩ := hx
    exact ⟨none, 0, [], rfl, by simp, fun h => absurd h (Nat.lt_irrefl 0), fun u hu => by simp at hu, fun k hk => absurd hk (Nat.not_lt_zero k), fun _ _ _ => rfl⟩
  · cases hs

theorem rows_cat {sz n m : Nat} {f g : Nat → Nat → L} {xs news : List Value} {J : Nat → Prop} (hxl : xs.length = n * sz)
    (hf : ∀ k, k < n → ∀ j, j < sz → ∃ c, xs[k * sz + j]? = some c ∧ (f k j).rd w J c) (hg : ∀ k, k < m → ∀ j, j < sz → ∃ c, news[k * sz + j]? = some c ∧ (g k j).rd w J c) :
    ∀ k, k < n + m → ∀ j, j < sz → ∃ c, (xs ++ news)[k * sz + j]? = some c ∧ ((fun k j => if k < n then f k j else g (k - n) j) k j).rd w J c := by
  intro k hk j hj
  dsimp only
  by_cases hkn : k < n
  · rw [if_pos hkn]
    obtain ⟨c, e1, e2⟩ := hf k hkn j hj
    refine ⟨c, ?_, e2⟩
    have h1 : (k + 1) * sz ≤ n * sz := Nat.mul_le_mul_right _ hkn
    rw [Nat.add_mul, Nat.one_mul] at h1
    rw [List.getElem?_append_left (by omega)]
    exact e1
  · rw [if_neg hkn]
    obtain ⟨c, e1, e2⟩ := hg (k - n) (by omega) j hj
    refine ⟨c, ?_, e2⟩
    have h1 : n * sz ≤ k * sz := Nat.mul_le_mul_right _ (by omega)
    rw [List.getElem?_append_right (by omega), ← e1, hxl]
    congr 1
    rw [Nat.sub_mul]
    omega

theorem Rel.give (h : Rel w0 I0 S σ I tm w) {i : Nat} {o : OB} (ho : S.obs[i]? = some o) (hl : o.live = true) {w' : World} (g1 : w'.os = w.os) (g2 : w'.tape = w.tape) (g3 : w'.output = w.output) (g4 : w.heap.size ≤ w'.heap.size)
    (g5 : ∀ y, y < w.heap.size → σ.blk i ≠ some y → w'.heap[y]? = w.heap[y]?) : Rel w0 I0 { S with obs := S.obs.set i .dead } σ I tm w' := by
  cases hbi : σ.blk i with
  | some b =>
    exact h.upd (b := b) ho hl hbi g1 g2 g3 g4 (fun y hy hyb => g5 y hy (fun e => by rw [hbi] at e; injection e with e; exact hyb e.symm)) trivial
  | none =>
    have hw : Same w w' := ⟨g1, g2, g3, g4, fun b hb => g5 b hb (by rw [hbi]; simp)⟩
    have := (h.same hw).kill [i]
    have hII : ∀ b, frozenI σ I S.obs [i] b → I b := fun b hb => by
      rcases hb with hb | ⟨j, hj, o, _, _, hb⟩
      · exact hb
      · simp at hj; subst hj; rw [hbi] at hb; cases hb
    refine ⟨this.same0, ?_, fun t => (this.fr t).mono (Asg.le_refl σ) (Keeps.refl _ w') hII, h.i1, h.i2, h.sz⟩
    have hst := (h.same hw).st
    refine ⟨by simpa using hst.cnt, hst.imm, fun j oj ej => ?_, fun j oj y ej lj ey => ?_, fun j k oj ok y ej ek lj lk ey ez => ?_⟩
    · by_cases hij : i = j
      · subst hij
        rw [List.getElem?_set_self (List.getElem?_eq_some_iff.1 ho).1] at ej
        injection ej with ej; subst ej; trivial
      · rw [List.getElem?_set_ne hij] at ej
        exact hst.obj j oj ej
    · by_cases hij : i = j
      · subst hij
        rw [List.getElem?_set_self (List.getElem?_eq_some_iff.1 ho).1] at ej
        injection ej with ej; subst ej; cases lj
      · rw [List.getElem?_set_ne hij] at ej
        exact hst.freshH j oj y ej lj ey
    · by_cases hij : i = j
      · subst hij
        rw [List.getElem?_set_self (List.getElem?_eq_some_iff.1 ho).1] at ej
        injection ej with ej; subst ej; cases lj
      · by_cases hik : i = k
        · subst hik
          rw [List.getElem?_set_self (List.getElem?_eq_some_iff.1 ho).1] at ek
          injection ek with ek; subst ek; cases lk
        · rw [List.getElem?_set_ne hij] at ej
          rw [List.getElem?_set_ne hik] at ek
          exact hst.injH j k oj ok y ej ek lj lk ey ez

theorem appG_sound (hT : TabOk P T) (h : Rel w0 I0 S σ I tm w) {t ty : TypeId} {s x : AV} {us ux : Value} {d : Option Tmp} {K : AS → Prop} (hd : ∀ t, d = some t → t < tm.size)
    (hds : Den σ I w s us) (hdx : Den σ I w x ux) {i j e n m e' n' m' : Nat} {f f' : Nat → Nat → Value} (hgs : gridsOf S s x = some (i, j, (e, n, m, f), (e', n', m', f'))) (hs : appG T S t i j e n m f e' n' m' f' d K) :
    ∃ u w' S' σ' I', (Builtin.append_ #[t, t] ty #[us, ux]).run P w = .ok u w' ∧ K S' ∧ Rel w0 I0 S' σ' I' (putT tm d u) w' := by
  unfold gridsOf at hgs
  split at hgs
  · rename_i i0
    split at hgs
    · rename_i e1 n1 m1 f1 ho
      split at hgs
      · rename_i j0
        split at hgs
        · rename_i e2 n2 m2 f2 ho'
          injection hgs with hgs
          simp only [Prod.mk.injEq] at hgs
          obtain ⟨rfl, rfl, ⟨rfl, rfl, rfl, rfl⟩, rfl, rfl, rfl, rfl⟩ := hgs
          unfold appG at hs
          split at hs
          · rename_i te0 hte0
            split at hs
            · rename_i e0 htd
              split at hs
              · rename_i te hte
                obtain ⟨hsz, hby, rfl, rfl, rfl, hij, hn', hb, hK⟩ := hs
                have hij : i0 ≠ j0 := by simpa using hij
                have hoke := hT e2 te hte
                obtain ⟨dd, ti, g1, g2, _⟩ := (hT t te0 hte0).get
                rw [htd] at g2
                have hdd : dd = .slice e2 := by cases dd <;> simp [TD.of] at g2; rw [g2]
                subst hdd
                have hcn := h.st.cnt
                have hg : GridRel w (σ.hdr i0) (σ.blk i0) (σ.sub i0) e2 n1 m2 f1 := h.st.obj i0 _ ho
                have hg' : GridRel w (σ.hdr j0) (σ.blk j0) (σ.sub j0) e2 n2 m2 f2 := h.st.obj j0 _ ho'
                obtain ⟨q0, xs, hrow0, hxs⟩ := hg.row
                obtain ⟨q0', ys, hrow0', hys⟩ := hg'.row
                simp only [Den] at hds hdx
                obtain ⟨hi, rfl, _⟩ := hds
                obtain ⟨hj, rfl, _⟩ := hdx
                have hcells : ∃ g cap, σ.hdr j0 = .slice (some ⟨g, 0, none⟩) n2 cap := by
                  rcases hrow0'.2 with ⟨_, hz⟩ | ⟨g, cap, cur, c1, _⟩
                  · omega
                  · exact ⟨g, cap, c1⟩
                obtain ⟨gj, capj, hhj⟩ := hcells
                have hbj : σ.blk j0 = some gj := by rw [← q0', hhj]; rfl
                have hcell : ∀ q u, ys[q]? = some u → w.cell? ((⟨gj, 0, none⟩ : Addr).add q) = some u := fun q u hq => by
                  have := hrow0'.cells (g := gj) (by rw [hhj]; rfl) q u hq
                  exact this
                have hysl : ys.length = n2 * te.size := by rw [hsz]; exact hrow0'.1
                have hy1 : ∀ u ∈ ys, u.oneCell' = true := fun u hu => by
                  obtain ⟨q, hq⟩ := List.mem_iff_getElem?.1 hu
                  have hql := (List.getElem?_eq_some_iff.1 hq).1
                  obtain ⟨b, cap, _, r2, _⟩ := hys q (by rw [hysl, hsz] at hql; omega)
                  rw [hq] at r2
                  injection r2 with r2
                  rw [r2]; rfl
                have hrow1 : w.ownsRow 0 e2 te.size (σ.hdr i0) n1 xs := by rw [hsz]; exact hrow0
                rw [hhj]
                obtain ⟨v', w', hrun, hrow, hgrow, hblk⟩ := run_app (P := P) (ty := ty) (cap := capj) hoke g1 hrow1 hysl (A := some ⟨gj, 0, none⟩) (fun _ => ⟨_, rfl, hcell⟩) hy1 (by omega) hby hb
                have hone : v'.oneCell' = true := by rcases hrow.2 with ⟨rfl, _⟩ | ⟨_, _, _, rfl, _⟩ <;> rfl
                have hdead : Rel w0 I0 { S with obs := S.obs.set i0 .dead } σ I tm w' := h.give ho rfl hgrow.os hgrow.tape hgrow.output hgrow.size fun y hy hyb => hgrow.block y hy (by rw [q0]; exact fun e => hyb e.symm)
                have hoj : ({ S with obs := S.obs.set i0 .dead } : AS).obs[j0]? = some (.grid e2 n2 m2 f2) := by
                  simp only
                  rw [List.getElem?_set_ne hij]
                  exact ho'
                have hdead2 : Rel w0 I0 { S with obs := (S.obs.set i0 .dead).set j0 .dead } σ I tm w' := hdead.upd (w' := w') (o' := .dead) hoj rfl hbj rfl rfl rfl (Nat.le_refl _) (fun _ _ _ => rfl) trivial
                have oth : ∀ k o, ({ S with obs := (S.obs.set i0 .dead).set j0 .dead } : AS).obs[k]? = some o → o.live = true → i0 ≠ k ∧ j0 ≠ k ∧ S.obs[k]? = some o := fun k o ek lk => by
                  simp only at ek
                  by_cases hjk : j0 = k
                  · subst hjk
                    rw [List.getElem?_set_self (by rw [List.length_set]; exact (List.getElem?_eq_some_iff.1 ho').1)] at ek
                    injection ek with ek; subst ek; cases lk
                  · rw [List.getElem?_set_ne hjk] at ek
                    by_cases hik : i0 = k
                    · subst hik
                      rw [List.getElem?_set_self (List.getElem?_eq_some_iff.1 ho).1] at ek
                      injection ek with ek; subst ek; cases lk
                    · rw [List.getElem?_set_ne hik] at ek
                      exact ⟨hik, hjk, ek⟩
                have hold : ∀ b, σ.has i0 b ∨ σ.has j0 b → w0.F b ∧ ¬ I b ∧ b < w'.heap.size ∧ ∀ k o, ({ S with obs := (S.obs.set i0 .dead).set j0 .dead } : AS).obs[k]? = some o → o.live = true → ¬ σ.has k b := fun b hb => by
                  rcases hb with hb | hb
                  · obtain ⟨f1, f2, f3⟩ := h.st.freshH i0 _ b ho rfl hb
                    refine ⟨f1, f2, Nat.lt_of_lt_of_le f3 hgrow.size, fun k o ek lk hk => ?_⟩
                    obtain ⟨hik, _, ek'⟩ := oth k o ek lk
                    exact hik (h.st.injH i0 k _ o b ho ek' rfl lk hb hk)
                  · obtain ⟨f1, f2, f3⟩ := h.st.freshH j0 _ b ho' rfl hb
                    refine ⟨f1, f2, Nat.lt_of_lt_of_le f3 hgrow.size, fun k o ek lk hk => ?_⟩
                    obtain ⟨_, hjk, ek'⟩ := oth k o ek lk
                    exact hjk (h.st.injH j0 k _ o b ho' ek' rfl lk hb hk)
                have sL : ∀ k : Nat, k < n1 → (σ.sub i0 ++ σ.sub j0)[k]? = (σ.sub i0)[k]? := fun k hk => List.getElem?_append_left (by rw [hg.size]; exact hk)
                have sR : ∀ k : Nat, n1 ≤ k → (σ.sub i0 ++ σ.sub j0)[k]? = (σ.sub j0)[k - n1]? := fun k hk => by
                  rw [List.getElem?_append_right (by rw [hg.size]; exact hk), hg.size]
                have xL : ∀ k : Nat, k < n1 → (xs ++ ys)[k]? = xs[k]? := fun k hk => List.getElem?_append_left (by rw [hrow0.1]; omega)
                have xR : ∀ k : Nat, n1 ≤ k → (xs ++ ys)[k]? = ys[k - n1]? := fun k hk => by
                  rw [List.getElem?_append_right (by rw [hrow0.1]; omega), hrow0.1]
                  congr 1
                  omega
                have sub0 : ∀ (k : Nat) b, (σ.sub i0 ++ σ.sub j0)[k]? = some b → (σ.sub i0)[k]? = some b ∧ k < n1 ∨ (σ.sub j0)[k - n1]? = some b ∧ n1 ≤ k := fun k b hk => by
                  by_cases hkn : k < n1
                  · rw [sL k hkn] at hk; exact .inl ⟨hk, hkn⟩
                  · rw [sR k (by omega)] at hk; exact .inr ⟨hk, by omega⟩
                have hkeep : ∀ b, (∃ k : Nat, (σ.sub i0)[k]? = some b) ∨ (∃ k : Nat, (σ.sub j0)[k]? = some b) → w'.heap[b]? = w.heap[b]? := fun b hb => by
                  rcases hb with ⟨k, hb⟩ | ⟨k, hb⟩
                  · exact hgrow.block b (h.st.freshH i0 _ b ho rfl (.inr ⟨k, hb⟩)).2.2 fun e => hg.out k b hb (by rw [← q0]; exact e.symm)
                  · exact hgrow.block b (h.st.freshH j0 _ b ho' rfl (.inr ⟨k, hb⟩)).2.2 fun e => hij (h.st.injH i0 j0 _ _ b ho ho' rfl rfl (.inl (by rw [← q0]; exact e.symm)) (.inr ⟨k, hb⟩))
                refine ⟨v', w', _, _, I, hrun, hK, (hdead2.snocG (b := v'.ownBlock) (v := v') (s := σ.sub i0 ++ σ.sub j0) (o := .grid e2 (n1 + n2) m2 fun k q => if k < n1 then f1 k q else f2 (k - n1) q) (fun y hy => ?_) ?_).put hd ?_⟩
                · rcases hy with hy | ⟨k, hy⟩
                  · rcases hblk with hq | hq
                    · exact hold y (.inl (.inl (by rw [← q0, ← hq]; exact hy)))
                    · rw [hq] at hy; injection hy with hy; subst hy
                      refine ⟨h.hB _ (Nat.le_refl _), fun hI => Nat.lt_irrefl _ (h.st.imm _ hI), (hrow.lt _ hq).2, fun k o ek lk hk => ?_⟩
                      obtain ⟨_, _, ek'⟩ := oth k o ek lk
                      exact Nat.lt_irrefl _ (h.st.freshH k o _ ek' lk hk).2.2
                  · rcases sub0 k y hy with ⟨hy, _⟩ | ⟨hy, _⟩
                    · exact hold y (.inl (.inr ⟨k, hy⟩))
                    · exact hold y (.inr (.inr ⟨_, hy⟩))
                · show GridRel w' ((σ.extG _ _ _).hdr σ.cnt) ((σ.extG _ _ _).blk σ.cnt) ((σ.extG _ _ _).sub σ.cnt) e2 (n1 + n2) m2 _
                  simp only [Asg.extG, if_true]
                  refine ⟨⟨rfl, xs ++ ys, by rw [← hsz]; exact hrow, fun k hk => ?_⟩, fun k hk => ?_, by rw [List.length_append, hg.size, hg'.size], fun k k' b hb hb' => ?_, fun k b hb => ?_⟩
                  · by_cases hkn : k < n1
                    · rw [sL k hkn, xL k hkn]; exact hxs k hkn
                    · rw [sR k (by omega), xR k (by omega)]; exact hys (k - n1) (by omega)
                  · by_cases hkn : k < n1
                    · rw [sL k hkn]
                      obtain ⟨b, zs, ty', r1, r2, r3, r4⟩ := hg.inn k hkn
                      exact ⟨b, zs, ty', r1, (hkeep b (.inl ⟨k, r1⟩)).trans r2, r3, fun q hq => by rw [if_pos hkn]; exact r4 q hq⟩
                    · rw [sR k (by omega)]
                      obtain ⟨b, zs, ty', r1, r2, r3, r4⟩ := hg'.inn (k - n1) (by omega)
                      exact ⟨b, zs, ty', r1, (hkeep b (.inr ⟨_, r1⟩)).trans r2, r3, fun q hq => by rw [if_neg hkn]; exact r4 q hq⟩
                  · rcases sub0 k b hb with ⟨hb, h1⟩ | ⟨hb, h1⟩ <;> rcases sub0 k' b hb' with ⟨hb', h2⟩ | ⟨hb', h2⟩
                    · exact hg.inj k k' b hb hb'
                    · exact absurd (h.st.injH i0 j0 _ _ b ho ho' rfl rfl (.inr ⟨_, hb⟩) (.inr ⟨_, hb'⟩)) hij
                    · exact absurd (h.st.injH i0 j0 _ _ b ho ho' rfl rfl (.inr ⟨_, hb'⟩) (.inr ⟨_, hb⟩)) hij
                    · have := hg'.inj _ _ b hb hb'
                      omega
                  · intro hv
                    have hlt : b < w.heap.size := by
                      rcases sub0 k b hb with ⟨hb, _⟩ | ⟨hb, _⟩
                      · exact (h.st.freshH i0 _ b ho rfl (.inr ⟨_, hb⟩)).2.2
                      · exact (h.st.freshH j0 _ b ho' rfl (.inr ⟨_, hb⟩)).2.2
                    rcases hblk with hq | hq
                    · rw [hq, q0] at hv
                      rcases sub0 k b hb with ⟨hb, _⟩ | ⟨hb, _⟩
                      · exact hg.out _ b hb hv
                      · exact hij (h.st.injH i0 j0 _ _ b ho ho' rfl rfl (.inl hv) (.inr ⟨_, hb⟩))
                    · rw [hq] at hv; injection hv with hv; omega
                · simp only [Den]
                  exact ⟨by simp [Asg.extG, hcn], by simp [Asg.extG, hcn], hone⟩
              · exact hs.elim
            · exact hs.elim
          · exact hs.elim
        · cases hgs
      · cases hgs
    · cases hgs
  · cases hgs

theorem appE_sound (hT : TabOk P T) (h : Rel w0 I0 S σ I tm w) {t t' ty : TypeId} {s x : AV} {us ux : Value} {d : Option Tmp} {K : AS → Prop} (hd : ∀ t, d = some t → t < tm.size)
    (hds : Den σ I w s us) (hdx : Den σ I w x ux) (hs : appE T S t t' s x d K) : ∃ u w' S' σ' I', (Builtin.append_ #[t, t'] ty #[us, ux]).run P w = .ok u w' ∧ K S' ∧ Rel w0 I0 S' σ' I' (putT tm d u) w' := by
  unfold appE at hs
  obtain ⟨rfl, hs⟩ := hs
  split at hs
  · rename_i i j e n m f e' n' m' f' hg
    exact appG_sound hT h hd hds hdx hg hs
  rename_i hgn
  clear hgn
  split at hs
  · rename_i te0 hte0
    split at hs
    · rename_i e htd
      split at hs
      · rename_i te hte
        split at hs
        · rename_i m szx scx g hsrc
          obtain ⟨rfl, hsz, hby, hs⟩ := hs
          have hok := hT t' te0 hte0
          have hoke := hT e te hte
          obtain ⟨dd, ti, g1, g2, _⟩ := hok.get
          rw [htd] at g2
          have hdd : dd = .slice e := by cases dd <;> simp [TD.of] at g2; rw [g2]
          subst hdd
          obtain ⟨A, cap, news, rfl, hnl, hA, hn1, hng, hnsc⟩ := srcV_sound h hdx hsrc hsz
          have hcn := h.st.cnt
          split at hs
          · obtain ⟨hb, hK⟩ := hs
            simp only [Den, L.rd] at hds
            obtain ⟨rfl, _⟩ := hds
            obtain ⟨v', w', hrun, hrow, hgrow, hblk⟩ := run_app (P := P) (ty := ty) (cap := cap) hoke g1 (World.ownsRow_nil w 0 e te.size) hnl hA hn1 hsz hby (by rw [Nat.zero_add]; exact hb)
            rw [Nat.zero_add, List.nil_append] at hrow
            have hw : Same w w' := ⟨hgrow.os, hgrow.tape, hgrow.output, hgrow.size, fun b hb => hgrow.block b hb (by simp [Value.ownBlock])⟩
            have hblk' : v'.ownBlock = none ∨ v'.ownBlock = some w.heap.size := by simpa [Value.ownBlock] using hblk
            have hone : v'.oneCell' = true := by rcases hrow.2 with ⟨rfl, _⟩ | ⟨_, _, _, rfl, _⟩ <;> rfl
            have hrel := h.snoc (w' := w') hw (b := v'.ownBlock) (v := v') (o := .row e te.size m scx g)
              (fun y ey => by
                rcases hblk' with hq | hq
                · rw [hq] at ey; cases ey
                · have := (hrow.lt y ey).2
                  rw [hq] at ey; injection ey with ey; subst ey
                  exact ⟨Nat.le_refl _, this⟩) (by
                refine ⟨.inr ⟨by simp [Asg.ext], news, by simpa [Asg.ext] using hrow, hn1, fun k hk j hj => ?_⟩, hnsc⟩
                obtain ⟨c, q1, q2⟩ := hng k hk j hj
                exact ⟨c, q1, L.rd_mono (hw.keeps h.st.imm) (fun _ h => h) q2⟩)
            refine ⟨v', w', _, _, I, hrun, hK, hrel.put hd ?_⟩
            simp only [Den]
            exact ⟨by simp [Asg.ext, hcn], by simp [Asg.ext, hcn], hone⟩
          · rename_i i
            split at hs
            · rename_i e' sz n sc f ho
              obtain ⟨rfl, rfl, hb, hK⟩ := hs
              simp only [Den] at hds
              obtain ⟨hi, rfl, _⟩ := hds
              obtain ⟨hrr, hxsc⟩ := h.st.obj i _ ho
              -- the old row is given up
              have give : ∀ {w' : World}, w'.os = w.os → w'.tape = w.tape → w'.output = w.output → w.heap.size ≤ w'.heap.size → (∀ y, y < w.heap.size → σ.blk i ≠ some y → w'.heap[y]? = w.heap[y]?) →
                  Rel w0 I0 { S with obs := S.obs.set i .dead } σ I tm w' := fun {w'} g1 g2 g3 g4 g5 => by
                cases hbi : σ.blk i with
                | some b =>
                  exact h.upd (b := b) ho rfl hbi g1 g2 g3 g4 (fun y hy hyb => g5 y hy (fun e => by rw [hbi] at e; injection e with e; exact hyb e.symm)) trivial
                | none =>
                  have hw : Same w w' := ⟨g1, g2, g3, g4, fun b hb => g5 b hb (by rw [hbi]; simp)⟩
                  have := (h.same hw).kill [i]
                  have hII : ∀ b, frozenI σ I S.obs [i] b → I b := fun b hb => by
                    rcases hb with hb | ⟨j, hj, o, _, _, hb⟩
                    · exact hb
                    · simp at hj; subst hj; rw [hbi] at hb; cases hb
                  refine ⟨this.same0, ?_, fun t => (this.fr t).mono (Asg.le_refl σ) (Keeps.refl _ w') hII, h.i1, h.i2, h.sz⟩
                  have hst := (h.same hw).st
                  refine ⟨by simpa using hst.cnt, hst.imm, fun j oj ej => ?_, fun j oj y ej lj ey => ?_, fun j k oj ok y ej ek lj lk ey ez => ?_⟩
                  · by_cases hij : i = j
                    · subst hij
                      rw [List.getElem?_set_self (List.getElem?_eq_some_iff.1 ho).1] at ej
                      injection ej with ej; subst ej; trivial
                    · rw [List.getElem?_set_ne hij] at ej
                      exact hst.obj j oj ej
                  · by_cases hij : i = j
                    · subst hij
                      rw [List.getElem?_set_self (List.getElem?_eq_some_iff.1 ho).1] at ej
                      injection ej with ej; subst ej; cases lj
                    · rw [List.getElem?_set_ne hij] at ej
                      exact hst.freshH j oj y ej lj ey
                  · by_cases hij : i = j
                    · subst hij
                      rw [List.getElem?_set_self (List.getElem?_eq_some_iff.1 ho).1] at ej
                      injection ej with ej; subst ej; cases lj
                    · by_cases hik : i = k
                      · subst hik
                        rw [List.getElem?_set_self (List.getElem?_eq_some_iff.1 ho).1] at ek
                        injection ek with ek; subst ek; cases lk
                      · rw [List.getElem?_set_ne hij] at ej
                        rw [List.getElem?_set_ne hik] at ek
                        exact hst.injH j k oj ok y ej ek lj lk ey ez
              have hscn : (sc && scx) = true → ∀ k j, (if k < n then f k j else g (k - n) j : L).scal = true := fun hsc k j => by
                simp only [Bool.and_eq_true] at hsc
                split
                · exact hxsc hsc.1 _ _
                · exact hnsc hsc.2 _ _
              rcases hrr with ⟨h0, ⟨A0, hA0⟩, hbi⟩ | ⟨hown, xs, hrow0, hx1, hxf⟩
              · subst h0
                rw [hA0]
                have hdead := give (w' := w) rfl rfl rfl (Nat.le_refl _) (fun _ _ _ => rfl)
                rcases run_appB (P := P) (w := w) (ty := ty) (cap := cap) hoke g1 (A' := A0) (n := 0) (olds := []) (by simp) (fun h => absurd h (Nat.lt_irrefl 0)) hnl hA hn1 hsz hby hb (.inl rfl) with ⟨rfl, _, hrun⟩ | ⟨v', w', hrun, hrow, hgrow, hblk⟩
                · have hrel := hdead.snoc' (b := none) (v := .slice A0 0 0) (o := .row e' te.size (0 + 0) (sc && scx) fun k j => if k < 0 then f k j else g (k - 0) j) (fun y ey => by cases ey)
                    ⟨.inl ⟨rfl, ⟨A0, by simp [Asg.ext]⟩, by simp [Asg.ext]⟩, hscn⟩
                  refine ⟨_, w, _, _, I, hrun, hK, hrel.put hd ?_⟩
                  simp only [Den]
                  exact ⟨by simp [Asg.ext, hcn], by simp [Asg.ext, hcn], rfl⟩
                · have hw : Same w w' := ⟨hgrow.os, hgrow.tape, hgrow.output, hgrow.size, fun b hb => hgrow.block b hb (by simp)⟩
                  have hone : v'.oneCell' = true := by rcases hrow.2 with ⟨rfl, _⟩ | ⟨_, _, _, rfl, _⟩ <;> rfl
                  have hrel := hdead.snoc (w' := w') hw (b := v'.ownBlock) (v := v') (o := .row e' te.size (0 + m) (sc && scx) fun k j => if k < 0 then f k j else g (k - 0) j)
                    (fun y ey => ⟨hblk y ey, (hrow.lt y ey).2⟩) (by
                    refine ⟨.inr ⟨by simp [Asg.ext], [] ++ news, by simpa [Asg.ext] using hrow, by simpa using hn1, rows_cat (by simp) (fun k hk => absurd hk (Nat.not_lt_zero k)) (fun k hk j hj => ?_)⟩, hscn⟩
                    obtain ⟨c, q1, q2⟩ := hng k hk j hj
                    exact ⟨c, q1, L.rd_mono (hw.keeps h.st.imm) (fun _ h => h) q2⟩)
                  refine ⟨v', w', _, _, I, hrun, hK, hrel.put hd ?_⟩
                  simp only [Den]
                  exact ⟨by simp [Asg.ext, hcn], by simp [Asg.ext, hcn], hone⟩
              obtain ⟨v', w', hrun, hrow, hgrow, hblk⟩ := run_app (P := P) (ty := ty) (cap := cap) hoke g1 hrow0 hnl hA hn1 hsz hby hb
              have hone : v'.oneCell' = true := by rcases hrow.2 with ⟨rfl, _⟩ | ⟨_, _, _, rfl, _⟩ <;> rfl
              have hkI : Keeps I w w' := fun b hb => hgrow.block b (h.st.imm b hb) (fun e => by
                rw [hown] at e
                exact (h.st.fresh i _ b ho rfl e.symm).2.1 hb)
              have hdead : Rel w0 I0 { S with obs := S.obs.set i .dead } σ I tm w' := give hgrow.os hgrow.tape hgrow.output hgrow.size fun y hy hyb => hgrow.block y hy (by rw [hown]; exact fun e => hyb e.symm)
              have hrel := hdead.snoc' (b := v'.ownBlock) (v := v') (o := .row e' te.size (n + m) (sc && scx) fun k j => if k < n then f k j else g (k - n) j)
                (fun y ey => by
                  have hlt := (hrow.lt y ey).2
                  rcases hblk with hq | hq
                  · rw [hq, hown] at ey
                    obtain ⟨f1, f2, f3⟩ := h.st.fresh i _ y ho rfl ey
                    refine ⟨f1, f2, hlt, fun j oj ej lj exj => ?_⟩
                    by_cases hij : i = j
                    · subst hij
                      simp only at ej
                      rw [List.getElem?_set_self (List.getElem?_eq_some_iff.1 ho).1] at ej
                      injection ej with ej; subst ej; cases lj
                    · simp only at ej
                      rw [List.getElem?_set_ne hij] at ej
                      exact hij (h.st.injH i j _ oj y ho ej rfl lj (.inl ey) exj)
                  · rw [hq] at ey; injection ey with ey; subst ey
                    refine ⟨h.hB _ (Nat.le_refl _), fun hI => Nat.lt_irrefl _ (h.st.imm _ hI), hlt, fun j oj ej lj exj => ?_⟩
                    by_cases hij : i = j
                    · subst hij
                      simp only at ej
                      rw [List.getElem?_set_self (List.getElem?_eq_some_iff.1 ho).1] at ej
                      injection ej with ej; subst ej; cases lj
                    · simp only at ej
                      rw [List.getElem?_set_ne hij] at ej
                      exact Nat.lt_irrefl _ (h.st.freshH j oj _ ej lj exj).2.2) (by
                  refine ⟨.inr ⟨by simp [Asg.ext], xs ++ news, by simpa [Asg.ext] using hrow, fun v hv => ?_, rows_cat hrow0.1 (fun k hk j hj => ?_) (fun k hk j hj => ?_)⟩, hscn⟩
                  · rcases List.mem_append.1 hv with hv | hv
                    · exact hx1 v hv
                    · exact hn1 v hv
                  · obtain ⟨c, q1, q2⟩ := hxf k hk j hj
                    exact ⟨c, q1, L.rd_mono hkI (fun _ h => h) q2⟩
                  · obtain ⟨c, q1, q2⟩ := hng k hk j hj
                    exact ⟨c, q1, L.rd_mono hkI (fun _ h => h) q2⟩)
              refine ⟨v', w', _, _, I, hrun, hK, hrel.put hd ?_⟩
              simp only [Den]
              exact ⟨by simp [Asg.ext, hcn], by simp [Asg.ext, hcn], hone⟩
            · exact hs.elim
          · rename_i szo n f
            obtain ⟨rfl, hn0, hb, hK⟩ := hs
            simp only [Den] at hds
            obtain ⟨hds, A', hA'⟩ := hds
            obtain ⟨A1, cap1, olds, e1, hol, hoA, ho1, hof⟩ := sl_cells hsz hds
            subst hA'
            injection e1 with e1 _ e3
            subst e1
            have hscn : false = true → ∀ k j, (if k < n then f k j else g (k - n) j : L).scal = true := fun hsc => by cases hsc
            rcases run_appB (P := P) (w := w) (ty := ty) (cap := cap) hoke g1 hol hoA hnl hA hn1 hsz hby hb hn0 with ⟨rfl, rfl, hrun⟩ | ⟨v', w', hrun, hrow, hgrow, hblk⟩
            · have hrel := h.snoc' (b := none) (v := .slice A' 0 0) (o := .row e te.size (0 + 0) false fun k j => if k < 0 then f k j else g (k - 0) j) (fun y ey => by cases ey)
                ⟨.inl ⟨rfl, ⟨A', by simp [Asg.ext]⟩, by simp [Asg.ext]⟩, hscn⟩
              refine ⟨_, w, _, _, I, hrun, hK, hrel.put hd ?_⟩
              simp only [Den]
              exact ⟨by simp [Asg.ext, hcn], by simp [Asg.ext, hcn], rfl⟩
            · have hw : Same w w' := ⟨hgrow.os, hgrow.tape, hgrow.output, hgrow.size, fun b hb => hgrow.block b hb (by simp)⟩
              have hone : v'.oneCell' = true := by rcases hrow.2 with ⟨rfl, _⟩ | ⟨_, _, _, rfl, _⟩ <;> rfl
              have hrel := h.snoc (w' := w') hw (b := v'.ownBlock) (v := v') (o := .row e te.size (n + m) false fun k j => if k < n then f k j else g (k - n) j)
                (fun y ey => ⟨hblk y ey, (hrow.lt y ey).2⟩) (by
                refine ⟨.inr ⟨by simp [Asg.ext], olds ++ news, by simpa [Asg.ext] using hrow, fun v hv => ?_, rows_cat hol (fun k hk j hj => ?_) (fun k hk j hj => ?_)⟩, hscn⟩
                · rcases List.mem_append.1 hv with hv | hv
                  · exact ho1 v hv
                  · exact hn1 v hv
                · obtain ⟨c, q1, q2⟩ := hof k hk j hj
                  exact ⟨c, q1, L.rd_mono (hw.keeps h.st.imm) (fun _ h => h) q2⟩
                · obtain ⟨c, q1, q2⟩ := hng k hk j hj
                  exact ⟨c, q1, L.rd_mono (hw.keeps h.st.imm) (fun _ h => h) q2⟩)
              refine ⟨v', w', _, _, I, hrun, hK, hrel.put hd ?_⟩
              simp only [Den]
              exact ⟨by simp [Asg.ext, hcn], by simp [Asg.ext, hcn], hone⟩
          · rename_i i szo lo n0
            split at hs
            · rename_i e' sz' n sc f ho
              obtain ⟨rfl, rfl, rfl, hlo, hm0, hb, hBoth⟩ := hs
              obtain ⟨A2, cap2, olds, e2, hol, hoA, ho1, hof, _⟩ := srcV_sound h hds (sz0 := te.size) (m := n0) (sc := sc) (g := fun k j => f (lo + k) j) (by simp [srcV, ho]) hsz
              simp only [Den] at hds
              obtain ⟨hi, A', cap0, rfl, hnc, hcm, hA'⟩ := hds
              injection e2 with e2 _ e3
              subst e2 e3
              obtain ⟨hrr, hxsc⟩ := h.st.obj i _ ho
              have hscn : ∀ (N0 : Nat) (f' : Nat → Nat → L), (sc = true → ∀ k j, (f' k j).scal = true) → (sc && scx) = true → ∀ k j, (if k < N0 then f' k j else g (k - N0) j : L).scal = true := fun N0 f' hf' hsc k j => by
                simp only [Bool.and_eq_true] at hsc
                split
                · exact hf' hsc.1 _ _
                · exact hnsc hsc.2 _ _
              by_cases hroom : n0 + m ≤ cap0
              · obtain ⟨b, mm, C, q1, rfl, q3, q4⟩ := hA' (by clear hA'; omega)
                clear hA'
                obtain ⟨rfl, hblk, cur, xs, c1, c2, c3, c4, c5, c6, c7, c8⟩ := hrr.at' q1 (by omega)
                obtain ⟨ad, rfl, hcells⟩ := hA hm0
                obtain ⟨_, ti', _, _, i1, i2, i3, i4⟩ := hoke.get
                have hoff : lo * te.size + n0 * te.size = (lo + n0) * te.size := (Nat.add_mul _ _ _).symm
                have hCle : (lo + n0) * te.size + m * te.size ≤ C * te.size := by
                  rw [← Nat.add_mul]
                  exact Nat.mul_le_mul_right _ (by omega)
                have hbs : ∀ j, j < news.length → lo * te.size + n0 * te.size + j < cur.size := fun j hj => by rw [hoff, c4]; omega
                have hrun := run_append_room_cells (P := P) w t' ty e' ti' g1 i1 b (lo * te.size) n0 cap0 ad m cap news (by rw [i2]; exact hnl) hcells hn1 hroom
                  (fun j hj => by rw [i2]; simp [World.cell?, c1, hbs j hj]) (fun j hj => by simp [World.frozen?, c1])
                rw [i2, hoff, hlo] at hrun
                obtain ⟨r1, r2, r3, r4⟩ := setCells_rest b news (mm * te.size) w
                obtain ⟨cur', d1, d2, d3⟩ := setCells_at b news (mm * te.size) w cur _ _ c1 (by rw [hnl, c4, ← hlo]; exact hCle)
                have hne := fun y hy => setCells_ne b news (mm * te.size) w y hy
                generalize w.setCells b (mm * te.size) news = w' at *
                have hdead : Rel w0 I0 { S with obs := S.obs.set i .dead } σ I tm w' := h.give ho rfl r1 r2 r3 (Nat.le_of_eq r4.symm) fun y _ hyb => hne y fun e => hyb (by rw [hblk, e])
                obtain ⟨f1, f2, f3⟩ := h.st.fresh i _ b ho rfl hblk
                have hkI : Keeps I w w' := fun y hy => hne y fun e => f2 (e ▸ hy)
                have htake : cur'.toList.take ((mm + m) * te.size) = xs ++ news := by
                  apply List.ext_getElem?
                  intro q
                  rw [List.getElem?_take, Array.getElem?_toList, d3, hnl, Nat.add_mul]
                  by_cases hq : q < mm * te.size
                  · rw [if_pos (by omega), if_neg (by omega), List.getElem?_append_left (by omega), ← c5, List.getElem?_take, if_pos hq, Array.getElem?_toList]
                  · rw [List.getElem?_append_right (by omega), c6]
                    by_cases hq2 : q < mm * te.size + m * te.size
                    · rw [if_pos hq2, if_pos (by omega)]
                    · rw [if_neg hq2, List.getElem?_eq_none (by omega)]
                have hrow : w'.ownsRow 0 e' te.size (.slice (some ⟨b, 0, none⟩) (mm + m) C) (mm + m) (xs ++ news) :=
                  ⟨by rw [List.length_append, c6, hnl, Nat.add_mul], .inr ⟨b, C, cur', rfl, Nat.zero_le _, d1, by omega, c3, by rw [d2, c4], htake⟩⟩
                have hrel := hdead.snoc' (b := some b) (v := .slice (some ⟨b, 0, none⟩) (mm + m) C) (o := .row e' te.size (mm + m) (sc && scx) fun k j => if k < mm then f k j else g (k - mm) j)
                  (fun y ey => by
                    injection ey with ey; subst ey
                    refine ⟨f1, f2, by omega, fun j oj ej lj exj => ?_⟩
                    by_cases hij : i = j
                    · subst hij
                      simp only at ej
                      rw [List.getElem?_set_self (List.getElem?_eq_some_iff.1 ho).1] at ej
                      injection ej with ej; subst ej; cases lj
                    · simp only at ej
                      rw [List.getElem?_set_ne hij] at ej
                      exact hij (h.st.injH i j _ oj b ho ej rfl lj (.inl hblk) exj)) (by
                  refine ⟨.inr ⟨by simp [Asg.ext, Value.ownBlock], xs ++ news, by simpa [Asg.ext] using hrow, fun v hv => ?_, rows_cat c6 (fun k hk j hj => ?_) (fun k hk j hj => ?_)⟩, hscn mm f hxsc⟩
                  · rcases List.mem_append.1 hv with hv | hv
                    · exact c7 v hv
                    · exact hn1 v hv
                  · obtain ⟨c, q1, q2⟩ := c8 k hk j hj
                    exact ⟨c, q1, L.rd_mono hkI (fun _ h => h) q2⟩
                  · obtain ⟨c, q1, q2⟩ := hng k hk j hj
                    exact ⟨c, q1, L.rd_mono hkI (fun _ h => h) q2⟩)
                refine ⟨_, w', _, _, I, hrun, hBoth.b, hrel.put hd ?_⟩
                simp only [Den]
                exact ⟨by simp [Asg.ext, hcn], _, cap0, rfl, hroom, hcm, fun _ => ⟨b, mm + m, C, by simp [Asg.ext, hcn], rfl, by omega, q4⟩⟩
              · have hnone : A' = none → cap0 = 0 ∧ n0 = 0 := fun hn => by
                  have hc0 : cap0 = 0 := by
                    rcases Nat.eq_zero_or_pos cap0 with h0 | h0
                    · exact h0
                    · obtain ⟨b, mm, C, _, q2, _⟩ := hA' h0
                      rw [hn] at q2; cases q2
                  exact ⟨hc0, by omega⟩
                have hb' : (n0 + m) * te.bytes ≤ 140737488355328 := Nat.le_trans (Nat.mul_le_mul_right _ (by omega)) hb
                obtain ⟨v', w', hrun, hrow, hgrow, hblk⟩ := run_appG (P := P) (ty := ty) hoke g1 hol hoA hnone hnl hA hn1 hsz hby hb' hm0 (by omega)
                have hw : Same w w' := ⟨hgrow.os, hgrow.tape, hgrow.output, hgrow.size, fun b hb => hgrow.block b hb (by simp)⟩
                obtain ⟨gb, gC, gcur, rfl, _, _, g5, g6, _⟩ : ∃ g cap cur, v' = .slice (some ⟨g, 0, none⟩) (n0 + m) cap ∧ 0 ≤ g ∧ w'.heap[g]? = some (.cells cur e' (0, 0)) ∧ n0 + m ≤ cap ∧ cap ≤ maxLen ∧ cur.size = cap * te.size := by
                  rcases hrow.2 with ⟨_, q⟩ | ⟨g, c, cur, q1, q2, q3, q4, q5, q6, _⟩
                  · omega
                  · exact ⟨g, c, cur, q1, q2, q3, q4, q5, q6⟩
                have hdead : Rel w0 I0 { S with obs := S.obs.set i .dead } σ I tm w' := h.give ho rfl hw.os hw.tape hw.output hw.size fun y hy _ => hw.block y hy
                have hrel := hdead.snoc' (b := some gb) (v := .slice (some ⟨gb, 0, none⟩) (n0 + m) gC) (o := .row e' te.size (n0 + m) (sc && scx) fun k j => if k < n0 then f (lo + k) j else g (k - n0) j)
                  (fun y ey => by
                    have hlt := (hrow.lt y (by rw [← ey]; rfl)).2
                    have hge := hblk y (by rw [← ey]; rfl)
                    refine ⟨h.hB _ hge, fun hI => Nat.lt_irrefl _ (Nat.lt_of_lt_of_le (h.st.imm _ hI) hge), hlt, fun j oj ej lj exj => ?_⟩
                    by_cases hij : i = j
                    · subst hij
                      simp only at ej
                      rw [List.getElem?_set_self (List.getElem?_eq_some_iff.1 ho).1] at ej
                      injection ej with ej; subst ej; cases lj
                    · simp only at ej
                      rw [List.getElem?_set_ne hij] at ej
                      exact Nat.lt_irrefl _ (Nat.lt_of_lt_of_le (h.st.freshH j oj _ ej lj exj).2.2 hge)) (by
                  refine ⟨.inr ⟨by simp [Asg.ext, Value.ownBlock], olds ++ news, by simpa [Asg.ext] using hrow, fun v hv => ?_, rows_cat hol (fun k hk j hj => ?_) (fun k hk j hj => ?_)⟩, hscn n0 (fun k j => f (lo + k) j) fun hsc k j => hxsc hsc _ _⟩
                  · rcases List.mem_append.1 hv with hv | hv
                    · exact ho1 v hv
                    · exact hn1 v hv
                  · obtain ⟨c, q1, q2⟩ := hof k hk j hj
                    exact ⟨c, q1, L.rd_mono (hw.keeps h.st.imm) (fun _ h => h) q2⟩
                  · obtain ⟨c, q1, q2⟩ := hng k hk j hj
                    exact ⟨c, q1, L.rd_mono (hw.keeps h.st.imm) (fun _ h => h) q2⟩)
                refine ⟨_, w', _, _, I, hrun, hBoth.a, hrel.put hd ?_⟩
                simp only [Den]
                exact ⟨by simp [Asg.ext, hcn], _, gC, rfl, g5, g6, fun _ => ⟨gb, n0 + m, gC, by simp [Asg.ext, hcn], by rw [Nat.zero_mul], by omega, by omega⟩⟩
            · exact hs.elim
          · exact hs.elim
        · exact hs.elim
      · exact hs.elim
    · exact hs.elim
  · exact hs.elim

end
end Go.Proofs.YtjfnhehjhicnoaaDoor
