/-
  A region that draws its order: one order of the machine's own choice serves every order.
-/
import Derived.Test.YtjfnhehjhicnoaaDoorVmA
import Derived.OrdersHeld
namespace Go.Proofs.YtjfnhehjhicnoaaDoor
open Go.RowKit

inductive Cls where
  | W
  | R
  | L
  | C
  | E
  deriving DecidableEq

def clsOf (G : FuncId → Bool) : Op → Cls
  | .move _ | .assign _ | .pick .. | .binOp .. | .unOp .. | .fieldAddr .. | .field .. | .indexAddr .. | .index .. | .nilCheck _ | .extract .. | .slice .. | .makeFunc .. | .build .. => .W
  | .load .. => .L
  | .alloc _ => .C
  | .box .. => .C
  | .convert _ dst _ => if G (1000000 + dst) then .E else .W
  | .call c => match c.callee with
    | .builtin b => match b with
      | .len | .min | .max => .W
      | _ => .E
    | .value f => match f with
      | .func f => if G f then .R else if G (2000000 + f) then .C else .E
      | _ => .E
    | _ => .E
  | _ => .E

section
variable {P : Program} {G : FuncId → Bool} {ops : Array Oper} {Q : Exit → Act → World → Prop}

/-- in every world that goes on from w the operation yields v, and leaves a world that goes on from that one -/
def YieldsQ (P : Program) (ops : Array Oper) (w : World) (o : Oper) (v : Value) (a : Act) : Prop :=
  (Region.wanted o (yielded ops a.tmps) = true ∧ ∀ w', Same w w' → o.quietAt P a (Same w') w' v) ∨ (Region.wanted o (yielded ops a.tmps) = false ∧ v = undef)

theorem YieldsQ.of_same {w : World} {o : Oper} {v : Value} {a a' : Act} (hy : YieldsQ P ops w o v a) (he : execOp a'.eval o = execOp a.eval o)
    (hw : Region.wanted o (yielded ops a'.tmps) = Region.wanted o (yielded ops a.tmps)) : YieldsQ P ops w o v a' := by
  unfold YieldsQ Oper.quietAt at *
  rw [he, hw]
  exact hy

theorem YieldsQ.go {w w1 : World} {o : Oper} {v : Value} {a : Act} (hy : YieldsQ P ops w o v a) (h : Same w w1) : YieldsQ P ops w1 o v a :=
  hy.imp (fun ⟨h1, h2⟩ => ⟨h1, fun w' hw' => h2 w' (h.trans hw')⟩) id

/-- a load: in every world that goes on from w it yields v and does nothing else -/
abbrev YieldsL (P : Program) (ops : Array Oper) (w : World) (o : Oper) (v : Value) (a : Act) : Prop := YieldsIf P ops (Same w) o v a
theorem YieldsL.go {w w1 : World} {o : Oper} {v : Value} {a : Act} (hy : YieldsL P ops w o v a) (h : Same w w1) : YieldsL P ops w1 o v a :=
  hy.imp (fun ⟨h1, h2⟩ => ⟨h1, fun w' hw' => h2 w' (h.trans hw')⟩) id

/-- operation number j comes up -/
def cOp (P : Program) (G : FuncId → Bool) (ops : Array Oper) (Q : Exit → Act → World → Prop) (j : Nat) (K : Act → World → Prop) (a : Act) (w : World) : Prop :=
  match ops[j]? with
  | none => K a w
  | some o => match clsOf G o.op with
    | .W => ∃ v, Yields P ops o v a ∧ K (a.put o.dst v) w
    | .R => ∃ v, YieldsQ P ops w o v a ∧ ∀ w', Same w w' → K (a.put o.dst v) w'
    | .L => ∃ v, YieldsL P ops w o v a ∧ K (a.put o.dst v) w
    | .C => wpOp P ops Q j (fun a' w' => Same w w' ∧ K a' w') a w
    | .E => wpOp P ops Q j K a w

theorem cOp_mono {j : Nat} {K K' : Act → World → Prop} {a : Act} {w : World} (h : ∀ a w, K a w → K' a w) (hc : cOp P G ops Q j K a w) : cOp P G ops Q j K' a w := by
  unfold cOp at *
  split
  · exact h _ _ (by simpa [*] using hc)
  · rename_i o ho
    simp only [ho] at hc
    split
    · rename_i hcl
      simp only [hcl] at hc
      obtain ⟨v, h1, h2⟩ := hc
      exact ⟨v, h1, h _ _ h2⟩
    · rename_i hcl
      simp only [hcl] at hc
      obtain ⟨v, h1, h2⟩ := hc
      exact ⟨v, h1, fun w' hw' => h _ _ (h2 w' hw')⟩
    · rename_i hcl
      simp only [hcl] at hc
      obtain ⟨v, h1, h2⟩ := hc
      exact ⟨v, h1, h _ _ h2⟩
    · rename_i hcl
      simp only [hcl] at hc
      exact wpOp_mono (fun a w k => ⟨k.1, h _ _ k.2⟩) hc
    · rename_i hcl
      simp only [hcl] at hc
      exact wpOp_mono h hc

theorem wpOp_of_cOp {j : Nat} {K : Act → World → Prop} {a : Act} {w : World} (hc : cOp P G ops Q j K a w) : wpOp P ops Q j K a w := by
  unfold cOp at hc
  cases ho : ops[j]? with
  | none => simp only [ho] at hc; unfold wpOp; simp only [ho]; exact hc
  | some o =>
    simp only [ho] at hc
    cases hcl : clsOf G o.op with
    | W =>
      simp only [hcl] at hc
      obtain ⟨v, h1, h2⟩ := hc
      exact h1.wpOp ho h2
    | R =>
      simp only [hcl] at hc
      obtain ⟨v, h1, h2⟩ := hc
      unfold wpOp
      simp only [ho]
      rcases h1 with ⟨hw, hv⟩ | ⟨hw, rfl⟩
      · simp only [hw, if_true]
        refine .inl ?_
        have h3 := hv w (Same.refl w)
        unfold Oper.quietAt at h3
        unfold Oper.wp
        generalize (execOp a.eval o).run P w = r at *
        cases r with
        | halt x w' => simp only [Oper.quietUpon] at h3
        | ok n w' =>
          cases n <;> simp only [Oper.quietUpon] at h3 <;> simp only [Oper.upon]
          case value u => obtain ⟨e1, e2⟩ := h3; rw [e1, e2]; exact h2 w (Same.refl w)
          case skip => obtain ⟨e1, e2⟩ := h3; rw [e1, ← e2]; exact h2 w (Same.refl w)
          case enter f args =>
            obtain ⟨e1, hcall⟩ := h3
            rw [e1]
            exact hcall.mono fun e w'' ⟨he, hw''⟩ => by subst he; exact h2 _ hw''
      · simp only [hw, Bool.false_eq_true, if_false]
        exact h2 w (Same.refl w)
    | L =>
      simp only [hcl] at hc
      obtain ⟨v, h1, h2⟩ := hc
      exact h1.wpOp ho (Same.refl w) h2
    | C =>
      simp only [hcl] at hc
      exact wpOp_mono (fun _ _ k => k.2) hc
    | E =>
      simp only [hcl] at hc
      exact hc

/-- one after the other, in the given order -/
def wpSeq (P : Program) (G : FuncId → Bool) (ops : Array Oper) (Q : Exit → Act → World → Prop) : List Nat → Act → World → Prop
  | [], a, w => Q .normal a w
  | i :: r, a, w => cOp P G ops Q i (wpSeq P G ops Q r) a w

theorem wpOps_of_seq : ∀ (l : List Nat) (a : Act) (w : World), wpSeq P G ops Q l a w → wpOps P ops Q l a w
  | [], _, _, h => h
  | i :: r, a, w, h => by
    rw [wpOps_cons]
    exact wpOp_mono (fun a' w' h' => wpOps_of_seq r a' w' h') (wpOp_of_cOp h)

/-- whatever order is picked -/
def wpAnyC (P : Program) (G : FuncId → Bool) (ops : Array Oper) (Q : Exit → Act → World → Prop) : Nat → Array Bool → Act → World → Prop
  | 0, listed, a, w => Region.ready .any ops listed = [] ∧ Q .normal a w
  | fuel + 1, listed, a, w =>
    (Region.ready .any ops listed = [] → Q .normal a w) ∧ ∀ i ∈ Region.ready .any ops listed, cOp P G ops Q i (wpAnyC P G ops Q fuel (listed.setIfInBounds i true)) a w

theorem wpAny_of_C : ∀ (fuel : Nat) (listed : Array Bool) (a : Act) (w : World), wpAnyC P G ops Q fuel listed a w → wpAny P .any ops Q fuel listed a w
  | 0, _, _, _, h => h
  | fuel + 1, _, _, _, h => ⟨h.1, fun i hi => wpOp_mono (fun a' w' h' => wpAny_of_C fuel _ a' w' h') (wpOp_of_cOp (h.2 i hi))⟩

/-- no panic is let out -/
def NoPanic (Q : Exit → Act → World → Prop) : Prop := ∀ c a w, ¬ Q (.panic c) a w

/-- j, apart from i, comes up while i's value lies there already: it may come up before -/
theorem cOp_putW {j : Nat} {oi oj : Oper} {v : Value} (hj : ops[j]? = some oj) (hap : oi.apart ops oj = true) (hsi : ∀ cs b, oi.op ≠ .select cs b) (hsj : ∀ cs b, oj.op ≠ .select cs b) (hQ : NoPanic Q)
    {K : Act → World → Prop} {a : Act} {w : World} (hy : Yields P ops oi v a) (h : cOp P G ops Q j K (a.put oi.dst v) w) :
    cOp P G ops Q j (fun a' w' => Yields P ops oi v a' ∧ K (a'.put oi.dst v) w') a w := by
  obtain ⟨h1, h2, h3⟩ := Oper.apart_spec hap
  have keep : ∀ u, Yields P ops oi v (a.put oj.dst u) := fun u => hy.of_same (execOp_put oi hsi a oj.dst u h3) (wanted_put oi a oj.dst u h3)
  unfold cOp at *
  simp only [hj] at h ⊢
  split
  · rename_i hcl
    simp only [hcl] at h
    obtain ⟨u, g1, g2⟩ := h
    refine ⟨u, ?_, keep u, by rw [← Act.put_comm a v u h2]; exact g2⟩
    exact g1.of_same (execOp_put oj hsj a oi.dst v h1).symm (wanted_put oj a oi.dst v h1).symm
  · rename_i hcl
    simp only [hcl] at h
    obtain ⟨u, g1, g2⟩ := h
    refine ⟨u, ?_, fun w' hw' => ⟨keep u, by rw [← Act.put_comm a v u h2]; exact g2 w' hw'⟩⟩
    exact g1.of_same (execOp_put oj hsj a oi.dst v h1).symm (wanted_put oj a oi.dst v h1).symm
  · rename_i hcl
    simp only [hcl] at h
    obtain ⟨u, g1, g2⟩ := h
    refine ⟨u, ?_, keep u, by rw [← Act.put_comm a v u h2]; exact g2⟩
    exact g1.of_same (execOp_put oj hsj a oi.dst v h1).symm (wanted_put oj a oi.dst v h1).symm
  · rename_i hcl
    simp only [hcl] at h
    exact wpOp_mono (fun a' w' k => ⟨k.2.1, k.1, k.2.2⟩) (wpOp_put hj hap hsi hsj (fun c a' w' hq => absurd hq (hQ _ _ _)) hy h)
  · rename_i hcl
    simp only [hcl] at h
    exact wpOp_put hj hap hsi hsj (fun c a' w' hq => absurd hq (hQ _ _ _)) hy h

theorem cOp_putR {j : Nat} {oi oj : Oper} {v : Value} (hj : ops[j]? = some oj) (hE : clsOf G oj.op ≠ .E) (hC : clsOf G oj.op ≠ .C) (hap : oi.apart ops oj = true) (hsi : ∀ cs b, oi.op ≠ .select cs b) (hsj : ∀ cs b, oj.op ≠ .select cs b)
    {K : Act → World → Prop} {a : Act} {w : World} (hy : YieldsQ P ops w oi v a) (h : ∀ w', Same w w' → cOp P G ops Q j K (a.put oi.dst v) w') :
    cOp P G ops Q j (fun a' w' => Same w w' ∧ YieldsQ P ops w' oi v a' ∧ ∀ w'', Same w' w'' → K (a'.put oi.dst v) w'') a w := by
  obtain ⟨h1, h2, h3⟩ := Oper.apart_spec hap
  have keep : ∀ u w', Same w w' → YieldsQ P ops w' oi v (a.put oj.dst u) := fun u w' hw' => (hy.go hw').of_same (execOp_put oi hsi a oj.dst u h3) (wanted_put oi a oj.dst u h3)
  have h0 := h w (Same.refl w)
  unfold cOp at *
  simp only [hj] at h h0 ⊢
  split
  · rename_i hcl
    simp only [hcl] at h h0
    obtain ⟨u, g1, g2⟩ := h0
    have g1' := g1.of_same (execOp_put oj hsj a oi.dst v h1).symm (wanted_put oj a oi.dst v h1).symm
    refine ⟨u, g1', Same.refl w, keep u w (Same.refl w), fun w'' hw'' => ?_⟩
    obtain ⟨u', k1, k2⟩ := h w'' hw''
    have : u' = u := by
      rcases g1 with ⟨a1, a2⟩ | ⟨a1, a2⟩ <;> rcases k1 with ⟨b1, b2⟩ | ⟨b1, b2⟩
      · have := (a2 w).symm.trans (b2 w)
        injection this with this; injection this with this; exact this.symm
      · rw [a1] at b1; cases b1
      · rw [a1] at b1; cases b1
      · rw [a2, b2]
    subst this
    rw [← Act.put_comm a v u' h2]
    exact k2
  · rename_i hcl
    simp only [hcl] at h h0
    obtain ⟨u, g1, g2⟩ := h0
    have g1' := g1.of_same (execOp_put oj hsj a oi.dst v h1).symm (wanted_put oj a oi.dst v h1).symm
    refine ⟨u, g1', fun w' hw' => ⟨hw', keep u w' hw', fun w'' hw'' => ?_⟩⟩
    rw [← Act.put_comm a v u h2]
    exact g2 w'' (hw'.trans hw'')
  · rename_i hcl
    simp only [hcl] at h h0
    obtain ⟨u, g1, g2⟩ := h0
    have g1' := g1.of_same (execOp_put oj hsj a oi.dst v h1).symm (wanted_put oj a oi.dst v h1).symm
    refine ⟨u, g1', Same.refl w, keep u w (Same.refl w), fun w'' hw'' => ?_⟩
    obtain ⟨u', k1, k2⟩ := h w'' hw''
    have : u' = u := by
      rcases g1 with ⟨a1, a2⟩ | ⟨a1, a2⟩ <;> rcases k1 with ⟨b1, b2⟩ | ⟨b1, b2⟩
      · have := (a2 w'' hw'').symm.trans (b2 w'' (Same.refl w''))
        injection this with this; injection this with this; exact this.symm
      · rw [a1] at b1; cases b1
      · rw [a1] at b1; cases b1
      · rw [a2, b2]
    subst this
    rw [← Act.put_comm a v u' h2]
    exact k2
  · rename_i hcl
    exact absurd hcl hC
  · rename_i hcl
    exact absurd hcl hE

/-- a load that comes first -/
theorem cOp_putL {j : Nat} {oi oj : Oper} {v : Value} (hj : ops[j]? = some oj) (hE : clsOf G oj.op ≠ .E) (hap : oi.apart ops oj = true) (hsi : ∀ cs b, oi.op ≠ .select cs b) (hsj : ∀ cs b, oj.op ≠ .select cs b) (hQ : NoPanic Q)
    {K : Act → World → Prop} {a : Act} {w : World} (hy : YieldsL P ops w oi v a) (h : cOp P G ops Q j K (a.put oi.dst v) w) :
    cOp P G ops Q j (fun a' w' => YieldsL P ops w' oi v a' ∧ K (a'.put oi.dst v) w') a w := by
  obtain ⟨h1, h2, h3⟩ := Oper.apart_spec hap
  have keep : ∀ u w', Same w w' → YieldsL P ops w' oi v (a.put oj.dst u) := fun u w' hw' => (hy.go hw').of_same (execOp_put oi hsi a oj.dst u h3) (wanted_put oi a oj.dst u h3)
  unfold cOp at *
  simp only [hj] at h ⊢
  split
  · rename_i hcl
    simp only [hcl] at h
    obtain ⟨u, g1, g2⟩ := h
    refine ⟨u, ?_, keep u w (Same.refl w), by rw [← Act.put_comm a v u h2]; exact g2⟩
    exact g1.of_same (execOp_put oj hsj a oi.dst v h1).symm (wanted_put oj a oi.dst v h1).symm
  · rename_i hcl
    simp only [hcl] at h
    obtain ⟨u, g1, g2⟩ := h
    refine ⟨u, ?_, fun w' hw' => ⟨keep u w' hw', by rw [← Act.put_comm a v u h2]; exact g2 w' hw'⟩⟩
    exact g1.of_same (execOp_put oj hsj a oi.dst v h1).symm (wanted_put oj a oi.dst v h1).symm
  · rename_i hcl
    simp only [hcl] at h
    obtain ⟨u, g1, g2⟩ := h
    refine ⟨u, ?_, keep u w (Same.refl w), by rw [← Act.put_comm a v u h2]; exact g2⟩
    exact g1.of_same (execOp_put oj hsj a oi.dst v h1).symm (wanted_put oj a oi.dst v h1).symm
  · rename_i hcl
    simp only [hcl] at h
    exact wpOp_mono (fun a' w' k => ⟨k.2.1, YieldsL.go k.1 k.2.1, k.2.2⟩) (wpOp_putIf hj hap hsi hsj (fun c a' w' hq => absurd hq (hQ _ _ _)) hy h)
  · rename_i hcl
    exact absurd hcl hE

/-- what has been listed is closed -/
def Closed (ops : Array Oper) (listed : Array Bool) : Prop :=
  listed.size = ops.size ∧ ∀ (j : Nat) oj, ops[j]? = some oj → listed.getD j false = true → ∀ e ∈ oj.after, Region.binds .any e = true → listed.getD e.on false = true

theorem Closed.set {listed : Array Bool} {i : Nat} (h : Closed ops listed) (hi : i ∈ Region.ready .any ops listed) : Closed ops (listed.setIfInBounds i true) := by
  obtain ⟨_, oi, hoi, hall⟩ := mem_ready.1 hi
  refine ⟨by simp [h.1], fun j oj hj hl e he hb => ?_⟩
  by_cases hij : i = j
  · subst hij
    have : oj = oi := Option.some.inj (hj.symm.trans hoi)
    subst this
    exact getD_set_true (hall e he hb)
  · rw [getD_set_ne false hij] at hl
    exact getD_set_true (h.2 j oj hj hl e he hb)

/-- j waits for i, through others -/
def waits (ops : Array Oper) : Nat → Nat → Nat → Bool
  | 0, _, _ => false
  | d + 1, j, i => match ops[j]? with
    | some o => o.after.any fun e => Region.binds .any e && (e.on == i || waits ops d e.on i)
    | none => false

theorem waits_spec {listed : Array Bool} (h : Closed ops listed) {i : Nat} (hi : listed.getD i false = false) : ∀ (d j : Nat), waits ops d j i = true → listed.getD j false = false ∧ j ∉ Region.ready .any ops listed
  | 0, j, hw => by simp [waits] at hw
  | d + 1, j, hw => by
    unfold waits at hw
    split at hw
    · rename_i o ho
      obtain ⟨e, he, hb⟩ := Array.any_eq_true'.1 hw
      simp only [Bool.and_eq_true, Bool.or_eq_true, beq_iff_eq] at hb
      obtain ⟨hb1, hb2⟩ := hb
      have hun : listed.getD e.on false = false := by
        rcases hb2 with hb2 | hb2
        · rw [hb2]; exact hi
        · exact (waits_spec h hi d e.on hb2).1
      refine ⟨?_, fun hr => ?_⟩
      · cases hl : listed.getD j false with
        | false => rfl
        | true =>
          have := h.2 j o ho hl e he hb1
          rw [hun] at this
          cases this
      · obtain ⟨_, o', ho', hall⟩ := mem_ready.1 hr
        have : o' = o := Option.some.inj (ho'.symm.trans ho)
        subst this
        have := hall e he hb1
        rw [hun] at this
        cases this
    · cases hw

/-- the effects that have not come up all wait for i -/
def allWait (G : FuncId → Bool) (ops : Array Oper) (listed : Array Bool) (i : Nat) : Bool :=
  (List.range ops.size).all fun j => listed.getD j true || (match ops[j]? with | some o => clsOf G o.op != .E | none => true) || waits ops ops.size j i

/-- the effects and the quiet calls that have not come up all wait for i -/
def allWaitR (G : FuncId → Bool) (ops : Array Oper) (listed : Array Bool) (i : Nat) : Bool :=
  (List.range ops.size).all fun j => listed.getD j true || (match ops[j]? with | some o => clsOf G o.op != .E && clsOf G o.op != .C | none => true) || waits ops ops.size j i

theorem getD_un {listed : Array Bool} {i : Nat} (h : listed.getD i true = false) : listed.getD i false = false := by
  rcases Nat.lt_or_ge i listed.size with h' | h'
  · simp [h'] at h ⊢; exact h
  · simp [Array.getElem?_eq_none h'] at h

theorem wpAnyC_firstW (hQ : NoPanic Q) (hs : Region.noSelect ops = true) {i : Nat} {oi : Oper} {v : Value} (hi : ops[i]? = some oi) (hcl : clsOf G oi.op = .W) :
    ∀ (fuel : Nat) (listed : Array Bool) (a : Act) (w : World),
      (∀ j oj, ops[j]? = some oj → j ≠ i → listed.getD j true = false → (∀ e ∈ oj.after, Region.binds .any e = true → e.on ≠ i) → oi.apart ops oj = true) →
      i ∈ Region.ready .any ops listed → Yields P ops oi v a → wpAnyC P G ops Q fuel (listed.setIfInBounds i true) (a.put oi.dst v) w → wpAnyC P G ops Q (fuel + 1) listed a w := by
  have hsel := Region.noSelect_spec hs
  intro fuel
  have own : ∀ {K : Act → World → Prop} {a : Act} {w : World}, Yields P ops oi v a → K (a.put oi.dst v) w → cOp P G ops Q i K a w := fun hy hk => by
    unfold cOp
    simp only [hi, hcl]
    exact ⟨v, hy, hk⟩
  induction fuel with
  | zero =>
    intro listed a w _ hr hy H
    refine ⟨fun h => (by rw [h] at hr; cases hr), fun j hj => ?_⟩
    by_cases hji : j = i
    · subst hji; exact own hy H
    · have := ready_mono hj hji
      rw [H.1] at this
      cases this
  | succ fuel ih =>
    intro listed a w hfree hr hy H
    refine ⟨fun h => (by rw [h] at hr; cases hr), fun j hj => ?_⟩
    by_cases hji : j = i
    · subst hji; exact own hy H
    · have h1 := H.2 j (ready_mono hj hji)
      obtain ⟨hjun, oj, hoj, hall⟩ := mem_ready.1 hj
      have hnot : ∀ e ∈ oj.after, Region.binds .any e = true → e.on ≠ i := fun e he hb heq => by
        have h1 := hall e he hb
        have h0 := getD_un (mem_ready.1 hr).1
        rw [heq, h0] at h1
        cases h1
      have h2 := cOp_putW hoj (hfree j oj hoj hji hjun hnot) (fun cs b => hsel i oi cs b hi) (fun cs b => hsel j oj cs b hoj) hQ hy h1
      refine cOp_mono (fun a' w' h3 => ih (listed.setIfInBounds j true) a' w' (fun k ok hk hki hun hno => ?_) (ready_mono hr (Ne.symm hji)) h3.1 ?_) h2
      · refine hfree k ok hk hki ?_ hno
        by_cases hjk : j = k
        · subst hjk; exact hjun
        · rw [getD_set_ne true hjk] at hun; exact hun
      · rw [Array.setIfInBounds_comm _ _ hji]
        exact h3.2

theorem wpAnyC_firstR (hs : Region.noSelect ops = true) {i : Nat} {oi : Oper} {v : Value} (hi : ops[i]? = some oi) (hcl : clsOf G oi.op = .R) :
    ∀ (fuel : Nat) (listed : Array Bool) (a : Act) (w : World), Closed ops listed →
      (∀ j oj, ops[j]? = some oj → j ≠ i → listed.getD j true = false → (∀ e ∈ oj.after, Region.binds .any e = true → e.on ≠ i) → oi.apart ops oj = true) →
      (∀ j oj, ops[j]? = some oj → listed.getD j true = false → (clsOf G oj.op = .E ∨ clsOf G oj.op = .C) → waits ops ops.size j i = true) →
      i ∈ Region.ready .any ops listed → YieldsQ P ops w oi v a → (∀ w', Same w w' → wpAnyC P G ops Q fuel (listed.setIfInBounds i true) (a.put oi.dst v) w') → wpAnyC P G ops Q (fuel + 1) listed a w := by
  have hsel := Region.noSelect_spec hs
  intro fuel
  have own : ∀ {K : Act → World → Prop} {a : Act} {w : World}, YieldsQ P ops w oi v a → (∀ w', Same w w' → K (a.put oi.dst v) w') → cOp P G ops Q i K a w := fun hy hk => by
    unfold cOp
    simp only [hi, hcl]
    exact ⟨v, hy, hk⟩
  induction fuel with
  | zero =>
    intro listed a w _ _ _ hr hy H
    refine ⟨fun h => (by rw [h] at hr; cases hr), fun j hj => ?_⟩
    by_cases hji : j = i
    · subst hji; exact own hy H
    · have := ready_mono hj hji
      rw [(H w (Same.refl w)).1] at this
      cases this
  | succ fuel ih =>
    intro listed a w hclosed hfree hE hr hy H
    refine ⟨fun h => (by rw [h] at hr; cases hr), fun j hj => ?_⟩
    by_cases hji : j = i
    · subst hji; exact own hy H
    · have h1 : ∀ w', Same w w' → _ := fun w' hw' => (H w' hw').2 j (ready_mono hj hji)
      obtain ⟨hjun, oj, hoj, hall⟩ := mem_ready.1 hj
      have hnot : ∀ e ∈ oj.after, Region.binds .any e = true → e.on ≠ i := fun e he hb heq => by
        have h1 := hall e he hb
        have h0 := getD_un (mem_ready.1 hr).1
        rw [heq, h0] at h1
        cases h1
      have hnE : clsOf G oj.op ≠ .E := fun he => by
        have := hE j oj hoj hjun (.inl he)
        exact (waits_spec hclosed (getD_un (mem_ready.1 hr).1) _ _ this).2 hj
      have hnC : clsOf G oj.op ≠ .C := fun he => by
        have := hE j oj hoj hjun (.inr he)
        exact (waits_spec hclosed (getD_un (mem_ready.1 hr).1) _ _ this).2 hj
      have h2 := cOp_putR hoj hnE hnC (hfree j oj hoj hji hjun hnot) (fun cs b => hsel i oi cs b hi) (fun cs b => hsel j oj cs b hoj) hy h1
      refine cOp_mono (fun a' w' h3 => ih (listed.setIfInBounds j true) a' w' (hclosed.set hj) (fun k ok hk hki hun hno => ?_) (fun k ok hk hun he => ?_) (ready_mono hr (Ne.symm hji)) h3.2.1 fun w'' hw'' => ?_) h2
      · refine hfree k ok hk hki ?_ hno
        by_cases hjk : j = k
        · subst hjk; exact hjun
        · rw [getD_set_ne true hjk] at hun; exact hun
      · refine hE k ok hk ?_ he
        by_cases hjk : j = k
        · subst hjk; exact hjun
        · rw [getD_set_ne true hjk] at hun; exact hun
      · rw [Array.setIfInBounds_comm _ _ hji]
        exact h3.2.2 w'' hw''

theorem wpAnyC_firstL (hQ : NoPanic Q) (hs : Region.noSelect ops = true) {i : Nat} {oi : Oper} {v : Value} (hi : ops[i]? = some oi) (hcl : clsOf G oi.op = .L) :
    ∀ (fuel : Nat) (listed : Array Bool) (a : Act) (w : World), Closed ops listed →
      (∀ j oj, ops[j]? = some oj → j ≠ i → listed.getD j true = false → (∀ e ∈ oj.after, Region.binds .any e = true → e.on ≠ i) → oi.apart ops oj = true) →
      (∀ j oj, ops[j]? = some oj → listed.getD j true = false → clsOf G oj.op = .E → waits ops ops.size j i = true) →
      i ∈ Region.ready .any ops listed → YieldsL P ops w oi v a → wpAnyC P G ops Q fuel (listed.setIfInBounds i true) (a.put oi.dst v) w → wpAnyC P G ops Q (fuel + 1) listed a w := by
  have hsel := Region.noSelect_spec hs
  intro fuel
  have own : ∀ {K : Act → World → Prop} {a : Act} {w : World}, YieldsL P ops w oi v a → K (a.put oi.dst v) w → cOp P G ops Q i K a w := fun hy hk => by
    unfold cOp
    simp only [hi, hcl]
    exact ⟨v, hy, hk⟩
  induction fuel with
  | zero =>
    intro listed a w _ _ _ hr hy H
    refine ⟨fun h => (by rw [h] at hr; cases hr), fun j hj => ?_⟩
    by_cases hji : j = i
    · subst hji; exact own hy H
    · have := ready_mono hj hji
      rw [H.1] at this
      cases this
  | succ fuel ih =>
    intro listed a w hclosed hfree hE hr hy H
    refine ⟨fun h => (by rw [h] at hr; cases hr), fun j hj => ?_⟩
    by_cases hji : j = i
    · subst hji; exact own hy H
    · have h1 := H.2 j (ready_mono hj hji)
      obtain ⟨hjun, oj, hoj, hall⟩ := mem_ready.1 hj
      have hnot : ∀ e ∈ oj.after, Region.binds .any e = true → e.on ≠ i := fun e he hb heq => by
        have h1 := hall e he hb
        have h0 := getD_un (mem_ready.1 hr).1
        rw [heq, h0] at h1
        cases h1
      have hnE : clsOf G oj.op ≠ .E := fun he => by
        have := hE j oj hoj hjun he
        exact (waits_spec hclosed (getD_un (mem_ready.1 hr).1) _ _ this).2 hj
      have h2 := cOp_putL hoj hnE (hfree j oj hoj hji hjun hnot) (fun cs b => hsel i oi cs b hi) (fun cs b => hsel j oj cs b hoj) hQ hy h1
      refine cOp_mono (fun a' w' h3 => ih (listed.setIfInBounds j true) a' w' (hclosed.set hj) (fun k ok hk hki hun hno => ?_) (fun k ok hk hun he => ?_) (ready_mono hr (Ne.symm hji)) h3.1 ?_) h2
      · refine hfree k ok hk hki ?_ hno
        by_cases hjk : j = k
        · subst hjk; exact hjun
        · rw [getD_set_ne true hjk] at hun; exact hun
      · refine hE k ok hk ?_ he
        by_cases hjk : j = k
        · subst hjk; exact hjun
        · rw [getD_set_ne true hjk] at hun; exact hun
      · rw [Array.setIfInBounds_comm _ _ hji]
        exact h3.2

theorem getD_repl (m j : Nat) : (Array.replicate m false).getD j false = false := by
  rcases Nat.lt_or_ge j m with h | h
  · simp [h]
  · simp [h]

/-- may the operations come up in this order, for all orders? -/
def ordFrom (G : FuncId → Bool) (ops : Array Oper) : List Nat → Array Bool → Bool
  | [], listed => (Region.ready .any ops listed).isEmpty
  | i :: r, listed => (Region.ready .any ops listed).contains i && (match ops[i]? with
      | some o => match clsOf G o.op with
        | .W => Region.free .any ops listed i
        | .R => Region.free .any ops listed i && allWaitR G ops listed i
        | .L => Region.free .any ops listed i && allWait G ops listed i
        | .C => (Region.ready .any ops listed).all fun j => j == i
        | .E => (Region.ready .any ops listed).all fun j => j == i
      | none => false) && ordFrom G ops r (listed.setIfInBounds i true)

def ordB (G : FuncId → Bool) (ops : Array Oper) (l : List Nat) : Bool := Region.noSelect ops && ordFrom G ops l (Array.replicate ops.size false)

theorem wpAnyC_of_seq (hQ : NoPanic Q) (hs : Region.noSelect ops = true) : ∀ (l : List Nat) (listed : Array Bool) (a : Act) (w : World), Closed ops listed → ordFrom G ops l listed = true → wpSeq P G ops Q l a w → wpAnyC P G ops Q l.length listed a w
  | [], listed, a, w, _, hB, h => ⟨by simpa [ordFrom] using hB, h⟩
  | i :: r, listed, a, w, hc, hB, h => by
    simp only [ordFrom, Bool.and_eq_true] at hB
    obtain ⟨⟨hr, hm⟩, hB'⟩ := hB
    have hr' : i ∈ Region.ready .any ops listed := by simpa using hr
    have hc' := hc.set hr'
    obtain ⟨_, oi, hoi, _⟩ := mem_ready.1 hr'
    simp only [hoi] at hm
    unfold wpSeq at h
    have ih := fun a' w' h' => wpAnyC_of_seq hQ hs r (listed.setIfInBounds i true) a' w' hc' hB' h'
    cases hcl : clsOf G oi.op with
    | W =>
      unfold cOp at h
      simp only [hoi, hcl] at h hm
      obtain ⟨v, h1, h2⟩ := h
      exact wpAnyC_firstW hQ hs hoi hcl r.length listed a w (Region.free_spec hoi hm) hr' h1 (ih _ _ h2)
    | R =>
      unfold cOp at h
      simp only [hoi, hcl, Bool.and_eq_true] at h hm
      obtain ⟨v, h1, h2⟩ := h
      refine wpAnyC_firstR hs hoi hcl r.length listed a w hc (Region.free_spec hoi hm.1) (fun j oj hj hun he => ?_) hr' h1 fun w' hw' => ih _ _ (h2 w' hw')
      have := List.all_eq_true.1 hm.2 j (List.mem_range.2 (Array.getElem?_eq_some_iff.1 hj).1)
      rcases he with he | he <;> simpa [hj, hun, he] using this
    | L =>
      unfold cOp at h
      simp only [hoi, hcl, Bool.and_eq_true] at h hm
      obtain ⟨v, h1, h2⟩ := h
      refine wpAnyC_firstL hQ hs hoi hcl r.length listed a w hc (Region.free_spec hoi hm.1) (fun j oj hj hun he => ?_) hr' h1 (ih _ _ h2)
      have := List.all_eq_true.1 hm.2 j (List.mem_range.2 (Array.getElem?_eq_some_iff.1 hj).1)
      simpa [hj, hun, he] using this
    | C =>
      simp only [hcl] at hm
      refine ⟨fun h0 => (by rw [h0] at hr'; cases hr'), fun j hj => ?_⟩
      have : j = i := by
        have := List.all_eq_true.1 hm j hj
        simpa using this
      subst this
      exact cOp_mono (fun a' w' h' => ih a' w' h') h
    | E =>
      simp only [hcl] at hm
      refine ⟨fun h0 => (by rw [h0] at hr'; cases hr'), fun j hj => ?_⟩
      have : j = i := by
        have := List.all_eq_true.1 hm j hj
        simpa using this
      subst this
      exact cOp_mono (fun a' w' h' => ih a' w' h') h

theorem wp_region_ord {id : Nat} {a : Act} {w : World} {l : List Nat} (hm : P.follows .mixedOrders = true) (hQ : NoPanic Q) (hB : ordB G ops l = true) (hl : l.length = ops.size)
    (h : wpSeq P G ops Q l a { w with drawn := w.drawn + 1 }) : (Code.region id ops true).wp P Q a w := by
  simp only [ordB, Bool.and_eq_true] at hB
  refine wp_region_any hm ?_
  rw [← hl]
  refine wpAny_of_C (G := G) _ _ _ _ ?_
  rw [hl]
  have := wpAnyC_of_seq hQ hB.1 l (Array.replicate ops.size false) a { w with drawn := w.drawn + 1 } ⟨by simp, fun j oj _ hl' => by
    rw [getD_repl] at hl'; cases hl'⟩ hB.2 h
  rw [hl] at this
  exact this

/-- a tree of orders: where some operations may come up one before the other, all ways are gone -/
inductive OT where
  | done
  | none
  | go (i : Nat) (t : OT)
  | fork (r : OT)
  | alt (i : Nat) (t r : OT)

def OT.firsts : OT → List Nat
  | .alt i _ r => i :: r.firsts
  | _ => []
def OT.ofList : List Nat → OT
  | [] => .done
  | i :: r => .go i (OT.ofList r)

def ordT (G : FuncId → Bool) (ops : Array Oper) : OT → Bool → Nat → Array Bool → Bool
  | .done, top, n, listed => top && (n == 0 && (Region.ready .any ops listed).isEmpty)
  | .none, top, _, _ => !top
  | .go i t, top, n, listed => top && (match n with
    | 0 => false
    | m + 1 => (Region.ready .any ops listed).contains i && (match ops[i]? with
      | some o => match clsOf G o.op with
        | .W => Region.free .any ops listed i
        | .R => Region.free .any ops listed i && allWaitR G ops listed i
        | .L => Region.free .any ops listed i && allWait G ops listed i
        | .C => (Region.ready .any ops listed).all fun j => j == i
        | .E => (Region.ready .any ops listed).all fun j => j == i
      | none => false) && ordT G ops t true m (listed.setIfInBounds i true))
  | .fork r, top, n, listed => top && (match n with
    | 0 => false
    | m + 1 => !(Region.ready .any ops listed).isEmpty && ((Region.ready .any ops listed).all (fun j => r.firsts.contains j) && ordT G ops r false m listed))
  | .alt i t r, top, m, listed => !top && ((Region.ready .any ops listed).contains i && (ordT G ops t true m (listed.setIfInBounds i true) && ordT G ops r false m listed))

def wpTree (P : Program) (G : FuncId → Bool) (ops : Array Oper) (Q : Exit → Act → World → Prop) : OT → Act → World → Prop
  | .done, a, w => Q .normal a w
  | .none, _, _ => True
  | .go i t, a, w => cOp P G ops Q i (wpTree P G ops Q t) a w
  | .fork r, a, w => wpTree P G ops Q r a w
  | .alt i t r, a, w => cOp P G ops Q i (wpTree P G ops Q t) a w ∧ wpTree P G ops Q r a w

theorem wpAnyC_of_tree (hQ : NoPanic Q) (hs : Region.noSelect ops = true) : ∀ (t : OT) (n : Nat) (listed : Array Bool) (a : Act) (w : World), Closed ops listed →
    (ordT G ops t true n listed = true → wpTree P G ops Q t a w → wpAnyC P G ops Q n listed a w) ∧
    (ordT G ops t false n listed = true → wpTree P G ops Q t a w → ∀ j ∈ t.firsts, cOp P G ops Q j (fun a' w' => wpAnyC P G ops Q n (listed.setIfInBounds j true) a' w') a w) := by
  intro t
  induction t with
  | done =>
    intro n listed a w hc
    refine ⟨fun hB h => ?_, fun hB => by simp [ordT] at hB⟩
    simp only [ordT, Bool.true_and, Bool.and_eq_true, beq_iff_eq] at hB
    obtain ⟨rfl, hB⟩ := hB
    exact ⟨by simpa using hB, h⟩
  | none =>
    intro n listed a w hc
    exact ⟨fun hB => by simp [ordT] at hB, fun _ _ j hj => by simp [OT.firsts] at hj⟩
  | go i t ih =>
    intro n listed a w hc
    refine ⟨fun hB h => ?_, fun hB => by simp [ordT] at hB⟩
    cases n with
    | zero => simp [ordT] at hB
    | succ n =>
      simp only [ordT, Bool.true_and, Bool.and_eq_true] at hB
      obtain ⟨⟨hr, hm⟩, hB'⟩ := hB
      have hr' : i ∈ Region.ready .any ops listed := by simpa using hr
      have hc' := hc.set hr'
      obtain ⟨_, oi, hoi, _⟩ := mem_ready.1 hr'
      simp only [hoi] at hm
      simp only [wpTree] at h
      have ih := fun a' w' h' => (ih n (listed.setIfInBounds i true) a' w' hc').1 hB' h'
      cases hcl : clsOf G oi.op with
      | W =>
        unfold cOp at h
        simp only [hoi, hcl] at h hm
        obtain ⟨v, h1, h2⟩ := h
        exact wpAnyC_firstW hQ hs hoi hcl n listed a w (Region.free_spec hoi hm) hr' h1 (ih _ _ h2)
      | R =>
        unfold cOp at h
        simp only [hoi, hcl, Bool.and_eq_true] at h hm
        obtain ⟨v, h1, h2⟩ := h
        refine wpAnyC_firstR hs hoi hcl n listed a w hc (Region.free_spec hoi hm.1) (fun j oj hj hun he => ?_) hr' h1 fun w' hw' => ih _ _ (h2 w' hw')
        have := List.all_eq_true.1 hm.2 j (List.mem_range.2 (Array.getElem?_eq_some_iff.1 hj).1)
        rcases he with he | he <;> simpa [hj, hun, he] using this
      | L =>
        unfold cOp at h
        simp only [hoi, hcl, Bool.and_eq_true] at h hm
        obtain ⟨v, h1, h2⟩ := h
        refine wpAnyC_firstL hQ hs hoi hcl n listed a w hc (Region.free_spec hoi hm.1) (fun j oj hj hun he => ?_) hr' h1 (ih _ _ h2)
        have := List.all_eq_true.1 hm.2 j (List.mem_range.2 (Array.getElem?_eq_some_iff.1 hj).1)
        simpa [hj, hun, he] using this
      | C =>
        simp only [hcl] at hm
        refine ⟨fun h0 => (by rw [h0] at hr'; cases hr'), fun j hj => ?_⟩
        have : j = i := by
          have := List.all_eq_true.1 hm j hj
          simpa using this
        subst this
        exact cOp_mono (fun a' w' h' => ih a' w' h') h
      | E =>
        simp only [hcl] at hm
        refine ⟨fun h0 => (by rw [h0] at hr'; cases hr'), fun j hj => ?_⟩
        have : j = i := by
          have := List.all_eq_true.1 hm j hj
          simpa using this
        subst this
        exact cOp_mono (fun a' w' h' => ih a' w' h') h
  | fork r ih =>
    intro n listed a w hc
    refine ⟨fun hB h => ?_, fun hB => by simp [ordT] at hB⟩
    cases n with
    | zero => simp [ordT] at hB
    | succ n =>
      simp only [ordT, Bool.true_and, Bool.and_eq_true] at hB
      obtain ⟨h0, h1, h2⟩ := hB
      refine ⟨fun he => (by rw [he] at h0; simp at h0), fun j hj => ?_⟩
      exact (ih n listed a w hc).2 h2 h j (by simpa using List.all_eq_true.1 h1 j hj)
  | alt i t r iht ihr =>
    intro n listed a w hc
    refine ⟨fun hB => by simp [ordT] at hB, fun hB h j hj => ?_⟩
    simp only [ordT, Bool.not_false, Bool.true_and, Bool.and_eq_true] at hB
    obtain ⟨h0, h1, h2⟩ := hB
    simp only [wpTree] at h
    have hr' : i ∈ Region.ready .any ops listed := by simpa using h0
    simp only [OT.firsts, List.mem_cons] at hj
    rcases hj with rfl | hj
    · exact cOp_mono (fun a' w' h' => (iht n _ a' w' (hc.set hr')).1 h1 h') h.1
    · exact (ihr n listed a w hc).2 h2 h.2 j hj

theorem wp_region_tree {id : Nat} {a : Act} {w : World} {t : OT} (hm : P.follows .mixedOrders = true) (hQ : NoPanic Q) (hs : Region.noSelect ops = true) (hB : ordT G ops t true ops.size (Array.replicate ops.size false) = true)
    (h : wpTree P G ops Q t a { w with drawn := w.drawn + 1 }) : (Code.region id ops true).wp P Q a w := by
  refine wp_region_any hm ?_
  refine wpAny_of_C (G := G) _ _ _ _ ?_
  exact (wpAnyC_of_tree hQ hs t ops.size (Array.replicate ops.size false) a { w with drawn := w.drawn + 1 } ⟨by simp, fun j oj _ hl' => by
    rw [getD_repl] at hl'; cases hl'⟩).1 hB h

end
end Go.Proofs.YtjfnhehjhicnoaaDoor
