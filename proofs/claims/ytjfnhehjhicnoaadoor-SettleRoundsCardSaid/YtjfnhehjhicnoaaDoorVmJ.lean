/-
  Lists of operations, code, loops, functions.
-/
import Derived.Test.YtjfnhehjhicnoaaDoorVmI
namespace Go.Proofs.YtjfnhehjhicnoaaDoor
open Go.RowKit

inductive Ex where
  | nm
  | ex (id : Nat)
  | rt

def wpL (P : Program) (T : Tab) (Γ : Gam) (ops : List Oper) : List Oper → AS → (AS → Prop) → Prop
  | [], S, K => K S
  | o :: r, S, K => stepG P T Γ ops o S fun S' => wpL P T Γ ops r S' K

abbrev Ord := Nat → Option OT


/-- along a tree of orders -/
def wpT (P : Program) (T : Tab) (Γ : Gam) (ops : List Oper) : OT → AS → (AS → Prop) → Prop
  | .done, S, K => K S
  | .none, _, _ => True
  | .go i t, S, K => match ops[i]? with
    | some o => stepG P T Γ ops o S fun S' => wpT P T Γ ops t S' K
    | none => False
  | .fork r, S, K => wpT P T Γ ops r S K
  | .alt i t r, S, K => Both (match ops[i]? with
    | some o => stepG P T Γ ops o S fun S' => wpT P T Γ ops t S' K
    | none => False) (wpT P T Γ ops r S K)

def pickOps (ops : List Oper) : List Nat → List Oper
  | [] => []
  | i :: r => match ops[i]? with
    | some o => o :: pickOps ops r
    | none => pickOps ops r

def wpR (P : Program) (T : Tab) (Γ : Gam) (ops : List Oper) (draw : Bool) (t : Option OT) (S : AS) (K : AS → Prop) : Prop :=
  match draw with
  | false => wpL P T Γ ops ops S K
  | true => match t with
    | none => wpL P T Γ ops ops S K
    | some t => wpT P T Γ ops t S K

def QK (w0 : Env) (I0 : Nat → Prop) (N : Nat) (K : Ex → AS → Prop) : Exit → Act → World → Prop
  | .normal, a, w => At w0 I0 N (K .nm) a w
  | .exit id, a, w => At w0 I0 N (K (.ex id)) a w
  | .ret, a, w => At w0 I0 N (K .rt) a w
  | _, _, _ => False

/-- what the code does, said outright -/
def SemC (P : Program) (N : Nat) (c : Code) (S : AS) (K : Ex → AS → Prop) : Prop :=
  ∀ (w0 : Env) (I0 : Nat → Prop) (σ : Asg) (I : Nat → Prop) (a : Act) (w : World), a.defers = [] → a.tmps.size = N → Rel w0 I0 S σ I a.tmps w → c.wp P (QK w0 I0 N K) a w

def kSeq (K : Ex → AS → Prop) (n : AS → Prop) : Ex → AS → Prop
  | .nm, S => n S
  | .ex i, S => K (.ex i) S
  | .rt, S => K .rt S

def kBlk (id : Nat) (K : Ex → AS → Prop) : Ex → AS → Prop
  | .nm, S => K .nm S
  | .ex i, S => if i = id then K .nm S else K (.ex i) S
  | .rt, S => K .rt S

/-- a loop: an invariant is asked -/
structure LoopG (P : Program) (N : Nat) (c : Code) (S : AS) (K : Ex → AS → Prop) : Prop where
  sem : SemC P N (.loop c) S K

/-- a branch -/
structure Br (b : Bool) (A B : Prop) : Prop where
  t : b = true → A
  f : b = false → B

def wpx (P : Program) (T : Tab) (Γ : Gam) (N : Nat) (O : Ord) : Code → AS → (Ex → AS → Prop) → Prop
  | .skip, S, K => K .nm S
  | .region id ops draw, S, K => wpR P T Γ ops.toList draw (O id) S (K .nm)
  | .seq x y, S, K => wpx P T Γ N O x S (kSeq K fun S' => wpx P T Γ N O y S' K)
  | .cond c x y, S, K => match ev S c with
    | .c (.v (.bool b)) => Br b (wpx P T Γ N O x S K) (wpx P T Γ N O y S K)
    | _ => False
  | .block id x, S, K => wpx P T Γ N O x S (kBlk id K)
  | .exit id, S, K => K (.ex id) S
  | .ret, S, K => K .rt S
  | .loop c, S, K => LoopG P N c S K
  | _, _, _ => False

def codeOk (G : FuncId → Bool) (N : Nat) (O : Ord) : Code → Bool
  | .region id ops draw => ops.toList.all (opOk N) && (match draw with
    | false => true
    | true => match O id with
      | none => ordB G ops (List.range ops.size)
      | some t => Region.noSelect ops && ordT G ops t true ops.size (Array.replicate ops.size false))
  | .seq x y => codeOk G N O x && codeOk G N O y
  | .cond c x y => cstOk c && (codeOk G N O x && codeOk G N O y)
  | .block _ x => codeOk G N O x
  | .loop x => codeOk G N O x
  | _ => true

section
variable {P : Program} {T : Tab} {Γ : Gam} {N : Nat} {O : Ord}

theorem noPanic_QK (w0 : Env) (I0 : Nat → Prop) (K : Ex → AS → Prop) : NoPanic (QK w0 I0 N K) := fun _ _ _ h => h

theorem wpL_sound (hT : TabOk P T) (hG : GOk P Γ) {ops : List Oper} {Q : Exit → Act → World → Prop} {w0 : Env} {I0 : Nat → Prop} {K : AS → Prop} (hok : ∀ o ∈ ops, opOk N o = true) (hQ : ∀ a w, At w0 I0 N K a w → Q .normal a w) :
    ∀ (l : List Nat) (S : AS) (σ : Asg) (I : Nat → Prop) (a : Act) (w : World), (∀ i ∈ l, i < ops.length) → a.defers = [] → a.tmps.size = N → Rel w0 I0 S σ I a.tmps w →
      wpL P T Γ ops (pickOps ops l) S K → wpSeq P (Gq Γ) ops.toArray Q l a w
  | [], S, σ, I, a, w, _, hd, hN, hr, h => hQ a w ⟨hd, hN, S, σ, I, h, hr⟩
  | i :: l, S, σ, I, a, w, hl, hd, hN, hr, h => by
    have hi : i < ops.length := hl i (by simp)
    have hget : ops[i]? = some ops[i] := List.getElem?_eq_getElem hi
    simp only [pickOps, hget, wpL] at h
    simp only [wpSeq]
    refine stepG_sound (Q := Q) hT hG hr rfl hd hN hget (hok _ (List.getElem_mem hi)) h fun a' w' hat => ?_
    obtain ⟨hd', hN', S', σ', I', hk, hr'⟩ := hat
    exact wpL_sound hT hG hok hQ l S' σ' I' a' w' (fun j hj => hl j (by simp [hj])) hd' hN' hr' hk

theorem wpT_sound (hT : TabOk P T) (hG : GOk P Γ) {ops : List Oper} {Q : Exit → Act → World → Prop} {w0 : Env} {I0 : Nat → Prop} {K : AS → Prop} (hok : ∀ o ∈ ops, opOk N o = true) (hQ : ∀ a w, At w0 I0 N K a w → Q .normal a w) :
    ∀ (t : OT) (S : AS) (σ : Asg) (I : Nat → Prop) (a : Act) (w : World), a.defers = [] → a.tmps.size = N → Rel w0 I0 S σ I a.tmps w → wpT P T Γ ops t S K → wpTree P (Gq Γ) ops.toArray Q t a w := by
  have step : ∀ (i : Nat) (t : OT) (ih : ∀ (S : AS) (σ : Asg) (I : Nat → Prop) (a : Act) (w : World), a.defers = [] → a.tmps.size = N → Rel w0 I0 S σ I a.tmps w → wpT P T Γ ops t S K → wpTree P (Gq Γ) ops.toArray Q t a w)
      (S : AS) (σ : Asg) (I : Nat → Prop) (a : Act) (w : World), a.defers = [] → a.tmps.size = N → Rel w0 I0 S σ I a.tmps w → (match ops[i]? with
    | some o => stepG P T Γ ops o S fun S' => wpT P T Γ ops t S' K
    | none => False) → cOp P (Gq Γ) ops.toArray Q i (wpTree P (Gq Γ) ops.toArray Q t) a w := by
    intro i t ih S σ I a w hd hN hr h
    cases ho : ops[i]? with
    | none => simp only [ho] at h
    | some o =>
      simp only [ho] at h
      refine stepG_sound (Q := Q) hT hG hr rfl hd hN ho (hok _ (List.mem_of_getElem? ho)) h fun a' w' hat => ?_
      obtain ⟨hd', hN', S', σ', I', hk, hr'⟩ := hat
      exact ih S' σ' I' a' w' hd' hN' hr' hk
  intro t
  induction t with
  | done => intro S σ I a w hd hN hr h; exact hQ a w ⟨hd, hN, S, σ, I, h, hr⟩
  | none => intro S σ I a w hd hN hr h; trivial
  | go i t ih => intro S σ I a w hd hN hr h; exact step i t ih S σ I a w hd hN hr h
  | fork r ih => intro S σ I a w hd hN hr h; exact ih S σ I a w hd hN hr h
  | alt i t r iht ihr => intro S σ I a w hd hN hr h; exact ⟨step i t iht S σ I a w hd hN hr h.a, ihr S σ I a w hd hN hr h.b⟩

theorem pickOps_range (ops : List Oper) : pickOps ops (List.range ops.length) = ops := by
  have key : ∀ (n k : Nat) , k + n = ops.length → pickOps ops (List.range' k n) = ops.drop k := by
    intro n
    induction n with
    | zero => intro k h; simp [pickOps]; omega
    | succ n ih =>
      intro k h
      have hk : k < ops.length := by omega
      simp only [List.range'_succ, pickOps, List.getElem?_eq_getElem hk]
      rw [ih (k + 1) (by omega), List.drop_eq_getElem_cons hk]
  rw [List.range_eq_range', key ops.length 0 (by omega)]
  rfl

theorem ord_lt {G : FuncId → Bool} {ops : Array Oper} : ∀ (l : List Nat) (listed : Array Bool), ordFrom G ops l listed = true → ∀ i ∈ l, i < ops.size
  | [], _, _, i, hi => by simp at hi
  | j :: l, listed, h, i, hi => by
    simp only [ordFrom, Bool.and_eq_true] at h
    rcases List.mem_cons.1 hi with rfl | hi
    · have : i ∈ Region.ready .any ops listed := by simpa using h.1.1
      obtain ⟨_, o, ho, _⟩ := mem_ready.1 this
      exact (Array.getElem?_eq_some_iff.1 ho).1
    · exact ord_lt l _ h.2 i hi

theorem SemC.mono {c : Code} {S : AS} {K K' : Ex → AS → Prop} (h : SemC P N c S K) (hk : ∀ e S, K e S → K' e S) : SemC P N c S K' := fun w0 I0 σ I a w hd hN hr =>
  Code.wp_mono (fun e a w q => by
    cases e with
    | normal => obtain ⟨h1, h2, S, σ, I, h3, h4⟩ := q; exact ⟨h1, h2, S, σ, I, hk _ _ h3, h4⟩
    | exit id => obtain ⟨h1, h2, S, σ, I, h3, h4⟩ := q; exact ⟨h1, h2, S, σ, I, hk _ _ h3, h4⟩
    | ret => obtain ⟨h1, h2, S, σ, I, h3, h4⟩ := q; exact ⟨h1, h2, S, σ, I, hk _ _ h3, h4⟩
    | goto l => exact q
    | panic ch => exact q
    | outgrown => exact q) (h w0 I0 σ I a w hd hN hr)

theorem wpx_sound (hT : TabOk P T) (hG : GOk P Γ) (hm : P.follows .mixedOrders = true) : ∀ (c : Code) (S : AS) (K : Ex → AS → Prop), codeOk (Gq Γ) N O c = true → wpx P T Γ N O c S K → SemC P N c S K
  | .skip, S, K, _, h => fun w0 I0 σ I a w hd hN hr => wp_skip ⟨hd, hN, S, σ, I, h, hr⟩
  | .region id ops draw, S, K, hok, h => by
    intro w0 I0 σ I a w hd hN hr
    simp only [codeOk, Bool.and_eq_true] at hok
    obtain ⟨hops, hord⟩ := hok
    have hops' : ∀ o ∈ ops.toList, opOk N o = true := fun o ho => List.all_eq_true.1 hops o ho
    simp only [wpx] at h
    cases draw with
    | false =>
      refine wp_region ?_
      refine wpOps_of_seq (G := Gq Γ) _ _ _ ?_
      have := wpL_sound (Q := QK w0 I0 N K) hT hG (ops := ops.toList) hops' (fun _ _ h => h) (List.range ops.size) S σ I a w (fun i hi => by simpa using hi) hd hN hr (by
        have e := pickOps_range ops.toList
        rw [Array.length_toList] at e
        rw [e]
        exact h)
      simpa using this
    | true =>
      have hr' : Rel w0 I0 S σ I a.tmps { w with drawn := w.drawn + 1 } := hr.same (Same.drew w)
      cases ho : O id with
      | none =>
        simp only [ho] at h hord
        refine wp_region_ord hm (noPanic_QK w0 I0 K) hord (by simp) ?_
        have := wpL_sound (Q := QK w0 I0 N K) hT hG (ops := ops.toList) hops' (fun _ _ h => h) (List.range ops.size) S σ I a _ (fun i hi => by simpa using hi) hd hN hr' (by
          have e := pickOps_range ops.toList
          rw [Array.length_toList] at e
          rw [e]
          exact h)
        simpa using this
      | some t =>
        simp only [ho, Bool.and_eq_true] at h hord
        refine wp_region_tree hm (noPanic_QK w0 I0 K) hord.1 hord.2 ?_
        have := wpT_sound (Q := QK w0 I0 N K) hT hG (ops := ops.toList) hops' (fun _ _ h => h) t S σ I a _ hd hN hr' h
        simpa using this
  | .seq x y, S, K, hok, h => by
    simp only [codeOk, Bool.and_eq_true] at hok
    simp only [wpx] at h
    have hx := wpx_sound hT hG hm x S _ hok.1 h
    intro w0 I0 σ I a w hd hN hr
    refine wp_seq (Code.wp_mono (fun e a' w' q => ?_) (hx w0 I0 σ I a w hd hN hr))
    cases e with
    | normal =>
      obtain ⟨h1, h2, S', σ', I', h3, h4⟩ := q
      exact wpx_sound hT hG hm y S' K hok.2 h3 w0 I0 σ' I' a' w' h1 h2 h4
    | exit id => exact q
    | ret => exact q
    | goto l => exact q
    | panic ch => exact q
    | outgrown => exact q
  | .cond c x y, S, K, hok, h => by
    simp only [codeOk, Bool.and_eq_true] at hok
    simp only [wpx] at h
    intro w0 I0 σ I a w hd hN hr
    split at h
    · rename_i b hb
      have hc := ev_sound hr rfl c hok.1
      rw [hb] at hc
      simp only [Den, L.rd] at hc
      exact wp_cond_split hc.1 (fun e => wpx_sound hT hG hm x S K hok.2.1 (h.1 e) w0 I0 σ I a w hd hN hr) (fun e => wpx_sound hT hG hm y S K hok.2.2 (h.2 e) w0 I0 σ I a w hd hN hr)
    · exact h.elim
  | .block id x, S, K, hok, h => by
    simp only [codeOk] at hok
    simp only [wpx] at h
    have hx := wpx_sound hT hG hm x S _ hok h
    intro w0 I0 σ I a w hd hN hr
    refine wp_block (Code.wp_mono (fun e a' w' q => ?_) (hx w0 I0 σ I a w hd hN hr))
    cases e with
    | normal => exact q
    | exit i =>
      simp only [Exit.inBlock]
      obtain ⟨h1, h2, S', σ', I', h3, h4⟩ := q
      simp only [kBlk] at h3
      by_cases hi : i = id
      · rw [if_pos hi] at h3 ⊢; exact ⟨h1, h2, S', σ', I', h3, h4⟩
      · rw [if_neg hi] at h3 ⊢; exact ⟨h1, h2, S', σ', I', h3, h4⟩
    | ret => exact q
    | goto l => exact q
    | panic ch => exact q
    | outgrown => exact q
  | .exit id, S, K, _, h => fun w0 I0 σ I a w hd hN hr => wp_exit ⟨hd, hN, S, σ, I, h, hr⟩
  | .ret, S, K, _, h => fun w0 I0 σ I a w hd hN hr => wp_ret ⟨hd, hN, S, σ, I, h, hr⟩
  | .loop c, S, K, _, h => LoopG.sem h
  | .rangeFunc .., S, K, _, h => h.elim
  | .scope _, S, K, _, h => h.elim
  | .label _, S, K, _, h => h.elim
  | .goto _, S, K, _, h => h.elim
  | .refuse _, S, K, _, h => h.elim

end
end Go.Proofs.YtjfnhehjhicnoaaDoor
