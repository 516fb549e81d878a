/-
  The machine's steps, regions and code; that they are the model's.
-/
import Derived.Test.YtjfnhehjhicnoaaDoorVmH
import Derived.Laws.Cover3
namespace Go.Proofs.YtjfnhehjhicnoaaDoor
open Go.RowKit

def rho (st : Bool) (S : AS) (x : Operand) : AV := match st with | true => (ev S x).strip | false => ev S x

def gcall (Γ : Gam) (f : FuncId) (as : List AV) : PV :=
  match Γ f with
  | some g => match (g as).2.exact with
    | some _ => some (g as)
    | none => none
  | none => none

def pvx (T : Tab) (Γ : Gam) (st : Bool) (S : AS) : Op → PV
  | .pick c x y => match rho st S c with
    | .c (.v (.bool p)) => pickP x y p (ev S x) (ev S y)
    | _ => none
  | .call c => match c.callee with
    | .value f => match f with
      | .func fid => gcall Γ fid (frzL S.obs (c.args.toList.map (rho st S)))
      | _ => none
    | _ => pv T S.obs (rho st S) (.call c)
  | .convert src dst x => match Γ (1000000 + dst) with
    | some _ => none
    | none => pv T S.obs (rho st S) (.convert src dst x)
  | op => pv T S.obs (rho st S) op

/-- a long array of single cells -/
def arrZ (T : Tab) (x : TE) : Option (Nat × Value) :=
  match x.td with
  | .array n e => match Nat.blt 16 n with
    | true => match tget T e with
      | some te => match te.zero.cells.toList with
        | [z] => some (n, z)
        | _ => none
      | none => none
    | false => none
  | _ => none

def stepE (P : Program) (T : Tab) (Γ : Gam) (ρ : Operand → AV) (S : AS) (o : Oper) (K : AS → Prop) : Prop :=
  match o.op with
  | .box _ x => match (ρ x).cells with
    | some cs => K (newBox S o.dst cs)
    | none => False
  | .alloc t => match Γ (3000000 + t) with
    | some _ => match tget T t with
      | some x => x.zero.cells.toList = [.pointer none, .slice none 0 0] ∧ BldG fun e b => K (newBld S o.dst t e b)
      | none => False
    | none => match tget T t with
    | some x => match arrZ T x with
      | some (n, z) => (x.zero.cells.toList = List.replicate n z ∧ z.oneCell' = true) ∧ K (newArr S o.dst n z)
      | none => (∀ u ∈ x.zero.cells.toList, u.oneCell' = true) ∧ K (newBox S o.dst (zeroCs x))
    | none => False
  | .store t a x => storeE T S t (ρ a) (ρ x) fun S' => K (S'.put o.dst .top)
  | .makeMap _ r => match r with
    | none => K (newMap S o.dst)
    | some _ => False
  | .lookup t m k co => lookE P T S t (ρ m) (ρ k) co o.dst K
  | .mapUpdate t m k x => updE P S t (ρ m) (ρ k) (ρ x) fun S' => K (S'.put o.dst .top)
  | .buildSlice t len parts => litE T S t len (parts.toList.map fun p => (p.1, ρ p.2)) o.dst K
  | .makeSlice t l c => makeE T S t (ρ l) (ρ c) o.dst K
  | .convert src dst x => match Γ (1000000 + dst) with
    | some _ => convE T S src dst (ρ x) o.dst K
    | none => False
  | .call c => match c.callee with
    | .builtin b => match b with
      | .append => match c.args.toList, c.argTypes.toList with
        | [s, x], [t, t'] => appE T S t t' (ρ s) (ρ x) o.dst K
        | _, _ => False
      | _ => False
    | .value f => match f with
      | .func fid => match Γ fid with
        | some _ => False
        | none => match Γ (2000000 + fid) with
          | some _ => False
          | none => callE P S fid (c.args.toList.map ρ) o.dst K
      | .tmp t => match ρ (.tmp t) with
        | .fn fid cap => callE P S fid (c.args.toList.map ρ ++ cap) o.dst K
        | _ => False
      | _ => False
    | _ => False
  | _ => False

/-- a call of a function that is said to be quiet -/
def quietC (Γ : Gam) : Op → Option (FuncId × List Operand)
  | .call c => match c.callee with
    | .value f => match f with
      | .func fid => match Γ fid with
        | some _ => none
        | none => match Γ (2000000 + fid) with
          | some _ => some (fid, c.args.toList)
          | none => none
      | _ => none
    | _ => none
  | _ => none
def stepX (P : Program) (T : Tab) (Γ : Gam) (ρ : Operand → AV) (S : AS) (o : Oper) (K : AS → Prop) : Prop :=
  match quietC Γ o.op with
  | some (fid, xs) => callC P S fid (xs.map ρ) o.dst K
  | none => stepE P T Γ ρ S o K

def gval (S : AS) (d : Option Tmp) (want : Bool) : Option Bool :=
  match d with
  | none => none
  | some d => match Nat.blt d 1000000 with
    | true => match fget S.fr d with
      | .c (.v (.bool b)) => match want with | true => some b | false => some (!b)
      | .gd h (.c (.v (.bool b))) => match want with | true => some (h && b) | false => some (h && !b)
      | .gd false .top => some false
      | _ => none
    | false => none

def gslot (ops : List Oper) (j : Nat) : Option Tmp := (ops[j]?).bind (·.dst)

def allG (g : Bool) (S : AS) : List Operand → Prop
  | [] => True
  | x :: r => gcond g (ev S x) ∧ allG g S r

def gcondK (g : Bool) (a : AV) (k : Prop) : Prop :=
  match a with
  | .gd h _ => (g = true → h = true) ∧ k
  | _ => k

def allGK (g : Bool) (S : AS) : List Operand → Prop → Prop
  | [], k => k
  | x :: r, k => gcondK g (ev S x) (allGK g S r k)

theorem gcondK_spec {g : Bool} {a : AV} {k : Prop} (h : gcondK g a k) : gcond g a ∧ k := by
  cases a <;> first | exact h | exact ⟨trivial, h⟩

theorem allGK_spec {g : Bool} {S : AS} : ∀ {xs : List Operand} {k : Prop}, allGK g S xs k → allG g S xs ∧ k
  | [], _, h => ⟨trivial, h⟩
  | x :: r, k, h => by
    simp only [allGK] at h
    obtain ⟨h1, h2⟩ := gcondK_spec h
    obtain ⟨h3, h4⟩ := allGK_spec h2
    exact ⟨⟨h1, h3⟩, h4⟩

def gops : Op → List Operand
  | .pick c _ _ => [c]
  | op => op.operands.toList

/-- how long the slice is that is held against nil -/
def nilLen (S : AS) : AV → Option Nat
  | .c (.sl _ n _) => some n
  | .cp _ n _ => some n
  | .ov _ _ _ n => some n
  | .c (.v (.slice none 0 0)) => some 0
  | .own i => match S.obs[i]? with
    | some (.row _ _ n _ _) => some n
    | _ => none
  | _ => none

/-- the slice is nil for certain -/
def nilX : AV → Bool
  | .c (.v (.slice none 0 0)) => true
  | _ => false
def nilQ (T : Tab) (S : AS) : Op → Option (Nat × Bool × Bool)
  | .binOp op t x y _ => match y with
    | .const c => match c with
      | .slice none 0 0 => match tget T t with
        | some te => match te.td with
          | .slice _ => match nilLen S (ev S x) with
            | some n => match op with
              | .eql => some (n, false, nilX (ev S x))
              | .neq => some (n, true, nilX (ev S x))
              | _ => none
            | none => none
          | _ => none
        | none => none
      | _ => none
    | _ => none
  | _ => none

/-- a slice held against nil: only a slice of no element can be nil -/
structure NilG (n : Nat) (ex : Bool) (k : Bool → Prop) : Prop where
  all : ∀ b, (b = true → n = 0) → (ex = true → b = true) → k b

def stepG (P : Program) (T : Tab) (Γ : Gam) (ops : List Oper) (o : Oper) (S : AS) (K : AS → Prop) : Prop :=
  match o.guard with
  | none => match nilQ T S o.op with
    | some (n, neg, ex) => NilG n ex fun b => putK S o.dst (boolV (b != neg)) K
    | none => match pvx T Γ false S o.op with
      | some (s, r) => s.and (forceA r fun r' => putK S o.dst r' K)
      | none => stepX P T Γ (rho false S) S o fun S' => forceS S' K
  | some (j, want) => match gval S (gslot ops j) want with
    | none => False
    | some g => match pvx T Γ true S o.op with
      | some (s, r) => allGK g S (gops o.op) (s.andG g (forceA r fun r' => putK S o.dst (.gd g r') K))
      | none => allGK g S o.op.operands.toList ((g = true → stepX P T Γ (rho true S) S o fun S' => forceS S' K) ∧ (g = false → putK S o.dst (.gd false .top) K))

def opOk (N : Nat) (o : Oper) : Bool := (match o.dst with | some d => decide (d < N) | none => true) && o.op.operands.toList.all cstOk

section
variable {P : Program} {T : Tab} {Γ : Gam} {w0 : Env} {w : World} {I0 I : Nat → Prop} {S : AS} {σ : Asg} {ops : List Oper} {Q : Exit → Act → World → Prop} {N : Nat} {tm : Array Value}

theorem rho_den (h : Rel w0 I0 S σ I tm w) {a : Act} (ha : a.tmps = tm) {g : Bool} (hg : g = true) {xs : List Operand} (hall : allG g S xs) (hok : ∀ x ∈ xs, cstOk x = true) : ∀ x ∈ xs, Den σ I w (rho true S x) (a.eval x) := by
  induction xs with
  | nil => intro x hx; simp at hx
  | cons y ys ih =>
    intro x hx
    simp only [allG] at hall
    rcases List.mem_cons.1 hx with rfl | hx
    · have := ev_sound h ha x (hok x (by simp))
      simp only [rho]
      have hc := hall.1
      revert this hc
      generalize ev S x = b
      intro this hc
      cases b with
      | gd hh c =>
        simp only [gcond] at hc
        simp only [Den] at this
        exact this.1 (hc hg)
      | _ => exact this
    · exact ih hall.2 (fun z hz => hok z (by simp [hz])) x hx

/-- the quiet calls -/
def Gq (Γ : Gam) (f : FuncId) : Bool := (Γ f).isSome

theorem pv_cls {T : Tab} {obs : List OB} {ρ : Operand → AV} {op : Op} {x : Sd × AV} (G : FuncId → Bool) (h : pv T obs ρ op = some x) (hn : ∀ c v, op = .call c → c.callee ≠ .value v) (hcv : ∀ s d x, op = .convert s d x → G (1000000 + d) = false) : clsOf G op = .W ∨ clsOf G op = .L := by
  cases op with
  | call c =>
    simp only [pv, builtP] at h
    simp only [clsOf]
    cases hc : c.callee with
    | value v => exact absurd hc (hn c v rfl)
    | invoke r m => simp [hc] at h
    | builtin b =>
      simp only [hc] at h
      cases b <;> simp at h ⊢
  | load t a => exact .inr rfl
  | convert s d x => exact .inl (by simp only [clsOf, hcv s d x rfl]; rfl)
  | _ => first | exact .inl rfl | (simp [pv] at h)

/-- what a pure step yields -/
theorem pvx_sound (hT : TabOk P T) (hG : GOk P Γ) (hrel : Rel w0 I0 S σ I tm w) {a : Act} (ha : a.tmps = tm) {st : Bool} {o : Oper} {s : Sd} {r : AV}
    (hρ : ∀ x ∈ gops o.op, Den σ I w (rho st S x) (a.eval x)) (hok : ∀ x ∈ o.op.operands.toList, cstOk x = true) (h : pvx T Γ st S o.op = some (s, r)) (hs : s.ok) :
    ∃ u, Den σ I w r u ∧ ((clsOf (Gq Γ) o.op = .W ∧ ∀ w', (execOp a.eval o).run P w' = .ok (.value u) w') ∨ (clsOf (Gq Γ) o.op = .R ∧ ∀ w', Same w w' → o.quietAt P a (Same w') w' u) ∨ (clsOf (Gq Γ) o.op = .L ∧ ∀ w', Same w w' → (execOp a.eval o).run P w' = .ok (.value u) w')) := by
  have plain : ∀ {op : Op}, o.op = op → (∀ c v, op = .call c → c.callee ≠ .value v) → (∀ c x y, op ≠ .pick c x y) → (∀ s d x, op = .convert s d x → Gq Γ (1000000 + d) = false) → pv T S.obs (rho st S) op = some (s, r) →
      ∃ u, Den σ I w r u ∧ ((clsOf (Gq Γ) o.op = .W ∧ ∀ w', (execOp a.eval o).run P w' = .ok (.value u) w') ∨ (clsOf (Gq Γ) o.op = .R ∧ ∀ w', Same w w' → o.quietAt P a (Same w') w' u) ∨ (clsOf (Gq Γ) o.op = .L ∧ ∀ w', Same w w' → (execOp a.eval o).run P w' = .ok (.value u) w')) := by
    intro op hop hn hnp hcv hpv
    have hgo : gops o.op = o.op.operands.toList := by rw [hop]; cases op <;> first | rfl | exact absurd rfl (hnp _ _ _)
    rw [hgo] at hρ
    subst hop
    obtain ⟨u, h1, h2⟩ := pv_sound (Gq Γ) (ρ := rho st S) (ρv := a.eval) (o := o) hT hrel.st hρ hpv hs
    refine ⟨u, h2, ?_⟩
    rcases pv_cls (Gq Γ) hpv hn hcv with hc | hc
    · exact .inl ⟨hc, fun w' => h1 w' (fun hr => by rw [hc] at hr; cases hr)⟩
    · exact .inr (.inr ⟨hc, fun w' hw => h1 w' (fun _ => hw)⟩)
  unfold pvx at h
  split at h
  · rename_i c x y hop
    split at h
    · rename_i p hp
      have hc := hρ c (by rw [hop]; simp [gops])
      rw [hp] at hc
      simp only [Den, L.rd] at hc
      obtain ⟨hc, _⟩ := hc
      have hx := ev_sound hrel ha x (hok x (by rw [hop]; simp [Op.operands]))
      have hy := ev_sound hrel ha y (hok y (by rw [hop]; simp [Op.operands]))
      have hd := pickP_sound hx hy (fun v e => by subst e; rfl) (fun v e => by subst e; rfl) h hs
      refine ⟨_, hd, .inl ⟨by rw [hop]; rfl, fun w' => ?_⟩⟩
      simp [execOp, hop, hc, asBool]
    · cases h
  · rename_i c hop
    split at h
    · rename_i f hcal
      split at h
      · rename_i fid
        unfold gcall at h
        split at h
        · rename_i g hg
          split at h
          · rename_i x hx
            injection h with h
            have hsr : (g (frzL S.obs (c.args.toList.map (rho st S)))) = (s, r) := h
            rw [hsr] at hx
            have hfn := hG fid g hg (frzL S.obs (c.args.toList.map (rho st S))) (by rw [hsr]; exact hs) (by rw [hsr]; simp [hx])
            rw [hsr] at hfn
            have hcls : clsOf (Gq Γ) o.op = .R := by rw [hop]; simp [clsOf, hcal, Gq, hg]
            have hargs : DenL σ I w (c.args.toList.map (rho st S)) (c.args.toList.map a.eval) := DenL.mapρ fun y hy => hρ y (by rw [hop]; simp [gops, Op.operands, Call.operands, hcal]; exact .inr (by simpa using hy))
            have call : ∀ w', Same w w' → Calls P fid (c.args.toList.map a.eval).toArray w' (FnPost w' (frozenI σ I S.obs (idsL S.obs (c.args.toList.map (rho st S)))) fun obs r' => obs = [] ∧ r' = r) := fun w' hw => by
              have hk := (hrel.same hw).kill (idsL S.obs (c.args.toList.map (rho st S)))
              refine hfn.2 w' _ _ hk.st.imm ?_
              refine frzL_sound Asg.zero (hrel.same hw).st (fun _ hb => Or.inl hb) (fun i hi o b ho hl hb => .inr ⟨i, hi, o, ho, hl, hb⟩) ?_
              exact hargs.mono (Asg.le_refl σ) (hw.keeps hrel.st.imm) (fun _ h => h)
            have hx' : ∀ {u : Value} {σ' : Asg} {I' : Nat → Prop} {w' : World}, Den σ' I' w' r u → u = x ∧ Den σ I w r u := fun hd => ⟨(exact_den hx hd).1, (exact_den hx hd).2 _ _ _⟩
            -- the value is the same in every world; that it denotes r is read off any call
            have hrx : Den σ I w r x := by
              obtain ⟨e, w'', fr, ⟨u, σ', I', obs, r', _, ⟨_, rfl⟩, _, _, _, _, hden⟩, _⟩ := (call w (Same.refl w)) []
              obtain ⟨e1, e2⟩ := hx' hden
              subst e1
              exact e2
            refine ⟨x, hrx, .inr (.inl ⟨hcls, fun w' hw => ?_⟩)⟩
            have hrun : (execOp a.eval o).run P w' = .ok (.enter fid (c.args.toList.map a.eval).toArray) w' := by
              have hcf := run_callFunc hfn.1 (c.args.toList.map a.eval).toArray w'
              have ea : c.args.map a.eval = (c.args.toList.map a.eval).toArray := map_arr _ _
              simp only [execOp, hop, resolve, hcal, Act.eval, Deferred.ofValue, Sem.run_bind, Sem.run_pure, Result.andThen_ok, invoke]
              rw [show c.args.map (fun x => a.eval x) = (c.args.toList.map a.eval).toArray from ea]
              simpa using hcf
            unfold Oper.quietAt
            rw [hrun]
            refine ⟨rfl, (call w' hw).mono ?_⟩
            rintro e w'' ⟨u, σ', I', obs, r', rfl, ⟨_, rfl⟩, h3, _, _, _, hden⟩
            exact ⟨by rw [(hx' hden).1], h3⟩
          · cases h
        · cases h
      · cases h
    · rename_i hcal
      exact plain hop (fun c' v e => by injection e with e; subst e; exact fun e => hcal _ e) (fun c x y => by simp) (fun s d x => by simp) h
  · rename_i src dst x hop
    split at h
    · cases h
    · rename_i hg
      exact plain hop (fun c v e => by simp at e) (fun c x y => by simp) (fun s d x e => by injection e with _ e2 _; subst e2; simp [Gq, hg]) h
  · rename_i hnp hnc hncv
    exact plain rfl (fun c v e => absurd e (hnc c)) hnp (fun s d x e => absurd e (hncv s d x)) h

/-- what is handed on: the frame's own shape, and a state of the machine that stands to it -/
def At (w0 : Env) (I0 : Nat → Prop) (N : Nat) (k : AS → Prop) (a : Act) (w : World) : Prop := a.defers = [] ∧ a.tmps.size = N ∧ ∃ S σ I, k S ∧ Rel w0 I0 S σ I a.tmps w

theorem size_putT (tm : Array Value) (d : Option Tmp) (u : Value) : (putT tm d u).size = tm.size := by
  cases d <;> simp [putT]

theorem put_tmps (a : Act) (d : Option Tmp) (u : Value) : (a.put d u).tmps = putT a.tmps d u ∧ (a.put d u).defers = a.defers := by
  cases d <;> exact ⟨rfl, rfl⟩

theorem At.put {k : AS → Prop} {a : Act} {d : Option Tmp} {u : Value} (hd : a.defers = []) (hn : a.tmps.size = N) (hk : k S) (h : Rel w0 I0 S σ I (putT a.tmps d u) w) : At w0 I0 N k (a.put d u) w := by
  obtain ⟨e1, e2⟩ := put_tmps a d u
  exact ⟨e2.trans hd, by rw [e1, size_putT]; exact hn, S, σ, I, hk, by rw [e1]; exact h⟩

theorem opOk_spec {o : Oper} (h : opOk N o = true) : (∀ t, o.dst = some t → t < N) ∧ ∀ x ∈ o.op.operands.toList, cstOk x = true := by
  simp only [opOk, Bool.and_eq_true] at h
  refine ⟨fun t e => ?_, fun x hx => List.all_eq_true.1 h.2 x hx⟩
  have := h.1
  rw [e] at this
  simpa using this

theorem stepE_sound (hT : TabOk P T) (hrel : Rel w0 I0 S σ I tm w) {a : Act} (ha : a.tmps = tm) (hdef : a.defers = []) (hN : a.tmps.size = N) {ρ : Operand → AV} {o : Oper} {K : AS → Prop} {Kc : Act → World → Prop}
    (hρ : ∀ x ∈ o.op.operands.toList, Den σ I w (ρ x) (a.eval x)) (hok : opOk N o = true) (h : stepE P T Γ ρ S o K) (hK : ∀ a' w', At w0 I0 N K a' w' → Kc a' w') :
    (clsOf (Gq Γ) o.op = .E ∧ o.wp P a w Kc Q) ∨ (clsOf (Gq Γ) o.op = .C ∧ o.wp P a w (fun a' w' => Same w w' ∧ Kc a' w') Q) := by
  subst ha
  obtain ⟨hdst, _⟩ := opOk_spec hok
  have hdst' : ∀ t, o.dst = some t → t < a.tmps.size := fun t e => by rw [hN]; exact hdst t e
  unfold stepE at h
  split at h
  · rename_i ty x hop
    refine .inr ⟨by rw [hop]; rfl, ?_⟩
    split at h
    · rename_i cs hcs
      have hx := hρ x (by rw [hop]; simp [Op.operands])
      obtain ⟨us, e1, e2, e3⟩ := AV.cells_sound hcs hx
      have hrun : (execOp a.eval o).run P w = .ok (.value (.pointer (some ⟨w.heap.size, 0, none⟩))) (w.alloc (.cells us.toArray ty)) := by
        simp only [execOp, hop, Instr.box, newVar, newRow, e1, Sem.run_bind, run_newObj, Result.andThen_ok, Sem.run_pure]
        rfl
      unfold Oper.wp
      rw [hrun]
      exact ⟨Same.alloc _ _, hK _ _ (At.put hdef hN h (newBox_sound hrel hdst' e2 e3 ty))⟩
    · exact h.elim
  · rename_i t hop
    refine .inr ⟨by rw [hop]; rfl, ?_⟩
    split at h
    · split at h
      · rename_i x hx
        have hok' := hT t x hx
        have hrun : (execOp a.eval o).run P w = .ok (.value (.pointer (some ⟨w.heap.size, 0, none⟩))) (w.alloc (.cells x.zero.cells.toList.toArray t)) := by
          simp only [execOp, hop, Instr.alloc, newVar, newRow, run_zero hok', Sem.run_bind, run_newObj, Result.andThen_ok, Sem.run_pure, Array.toArray_toList]
          rfl
        obtain ⟨h0, ⟨e, hk⟩⟩ := h
        rw [h0] at hrun
        unfold Oper.wp
        rw [hrun]
        exact ⟨Same.alloc _ _, hK _ _ (At.put hdef hN (hk w.heap.size) (newBld_sound hrel hdst' t e))⟩
      · exact h.elim
    split at h
    · rename_i x hx
      have hok' := hT t x hx
      have hrun : (execOp a.eval o).run P w = .ok (.value (.pointer (some ⟨w.heap.size, 0, none⟩))) (w.alloc (.cells x.zero.cells.toList.toArray t)) := by
        simp only [execOp, hop, Instr.alloc, newVar, newRow, run_zero hok', Sem.run_bind, run_newObj, Result.andThen_ok, Sem.run_pure, Array.toArray_toList]
        rfl
      split at h
      · rename_i n z hz
        obtain ⟨⟨h0, h1⟩, h⟩ := h
        rw [h0] at hrun
        unfold Oper.wp
        rw [hrun]
        exact ⟨Same.alloc _ _, hK _ _ (At.put hdef hN h (newArr_sound hrel hdst' h1 t))⟩
      · obtain ⟨h0, h⟩ := h
        unfold Oper.wp
        rw [hrun]
        exact ⟨Same.alloc _ _, hK _ _ (At.put hdef hN h (newBox_sound hrel hdst' (zeroCs_sound h0) h0 t))⟩
    · exact h.elim
  · rename_i t x y hop
    refine .inl ⟨by rw [hop]; rfl, ?_⟩
    obtain ⟨w', S', I', hrun, hk, hr⟩ := storeE_sound hT hrel (hρ x (by rw [hop]; simp [Op.operands])) (hρ y (by rw [hop]; simp [Op.operands])) h
    have hrun' : (execOp a.eval o).run P w = .ok .skip w' := by simp [execOp, hop, hrun]
    unfold Oper.wp
    rw [hrun']
    exact hK _ _ (At.put hdef hN hk (hr.put hdst' (by simp [Den])))
  · rename_i t r hop
    refine .inl ⟨by rw [hop]; rfl, ?_⟩
    split at h
    · have hrun : (execOp a.eval o).run P w = .ok (.value (.map (some w.heap.size))) (w.alloc (.map #[] 0)) := by
        simp only [execOp, hop, Option.map_none, Instr.makeMap, Sem.run_bind, run_newObj, Result.andThen_ok, Sem.run_pure]
        rfl
      unfold Oper.wp
      rw [hrun]
      exact hK _ _ (At.put hdef hN h (newMap_sound hrel hdst'))
    · exact h.elim
  · rename_i t m k co hop
    refine .inl ⟨by rw [hop]; rfl, ?_⟩
    obtain ⟨u, S', hrun, hk, hr⟩ := lookE_sound hT hrel hdst' (hρ m (by rw [hop]; simp [Op.operands])) (hρ k (by rw [hop]; simp [Op.operands])) h
    have hrun' : (execOp a.eval o).run P w = .ok (.value u) w := by simp [execOp, hop, hrun]
    unfold Oper.wp
    rw [hrun']
    exact hK _ _ (At.put hdef hN hk hr)
  · rename_i t m k x hop
    refine .inl ⟨by rw [hop]; rfl, ?_⟩
    obtain ⟨w', S', hrun, hk, hr⟩ := updE_sound hrel (hρ m (by rw [hop]; simp [Op.operands])) (hρ k (by rw [hop]; simp [Op.operands])) (hρ x (by rw [hop]; simp [Op.operands])) h
    have hrun' : (execOp a.eval o).run P w = .ok .skip w' := by simp [execOp, hop, hrun]
    unfold Oper.wp
    rw [hrun']
    exact hK _ _ (At.put hdef hN hk (hr.put hdst' (by simp [Den])))
  · rename_i t len parts hop
    refine .inl ⟨by rw [hop]; rfl, ?_⟩
    obtain ⟨u, w', S', σ', I', hrun, hk, hr⟩ := litE_sound (us := parts.toList.map fun p => (p.1, a.eval p.2)) hT hrel hdst' (by simp) (fun j q e => by
      simp only [List.getElem?_map, Option.map_eq_some_iff] at e
      obtain ⟨p, e1, rfl⟩ := e
      refine ⟨a.eval p.2, by simp only [List.getElem?_map, e1, Option.map_some], hρ p.2 ?_⟩
      rw [hop]
      simp only [Op.operands]
      exact List.mem_map.2 ⟨p, List.mem_of_getElem? e1, rfl⟩) h
    have ea : (parts.map fun p => (p.1, a.eval p.2)) = (parts.toList.map fun p => (p.1, a.eval p.2)).toArray := map_arr _ _
    have hrun' : (execOp a.eval o).run P w = .ok (.value u) w' := by simp only [execOp, hop, ea, Sem.run_bind, hrun, Result.andThen_ok, Sem.run_pure]
    unfold Oper.wp
    rw [hrun']
    exact hK _ _ (At.put hdef hN hk hr)
  · rename_i t l c hop
    refine .inl ⟨by rw [hop]; rfl, ?_⟩
    obtain ⟨u, w', S', σ', I', hrun, hk, hr⟩ := makeE_sound hT hrel hdst' (hρ l (by rw [hop]; simp [Op.operands])) (hρ c (by rw [hop]; simp [Op.operands])) h
    have hrun' : (execOp a.eval o).run P w = .ok (.value u) w' := by simp [execOp, hop, hrun]
    unfold Oper.wp
    rw [hrun']
    exact hK _ _ (At.put hdef hN hk hr)
  · rename_i src dst x hop
    split at h
    · rename_i g hg
      refine .inl ⟨by rw [hop]; simp [clsOf, Gq, hg], ?_⟩
      obtain ⟨u, w', S', σ', I', hrun, hk, hr⟩ := convE_sound hT hrel hdst' (hρ x (by rw [hop]; simp [Op.operands])) h
      have hrun' : (execOp a.eval o).run P w = .ok (.value u) w' := by simp [execOp, hop, hrun]
      unfold Oper.wp
      rw [hrun']
      exact hK _ _ (At.put hdef hN hk hr)
    · exact h.elim
  · rename_i c hop
    have hargs : ∀ x ∈ c.args.toList, Den σ I w (ρ x) (a.eval x) := fun x hx => hρ x (by rw [hop]; simp [Op.operands, Call.operands]; exact .inr (by simpa using hx))
    have ea : c.args.map a.eval = (c.args.toList.map a.eval).toArray := map_arr _ _
    split at h
    · rename_i b hcal
      split at h
      · split at h
        · rename_i s x t t' h1 h2
          refine .inl ⟨by rw [hop]; simp [clsOf, hcal], ?_⟩
          have h2' : c.argTypes = #[t, t'] := by apply Array.toList_inj.1; simpa using h2
          obtain ⟨u, w', S', σ', I', hrun, hk, hr⟩ := appE_sound (ty := o.type) hT hrel hdst' (hargs s (by rw [h1]; simp)) (hargs x (by rw [h1]; simp)) h
          have hrun' : (execOp a.eval o).run P w = .ok (.value u) w' := by
            simp only [execOp, hop, resolve, hcal, invoke, builtin, ea, h1, h2', List.map_cons, List.map_nil, Sem.run_bind, Sem.run_pure, Result.andThen_ok, hrun]
          unfold Oper.wp
          rw [hrun']
          exact hK _ _ (At.put hdef hN hk hr)
        · exact h.elim
      · exact h.elim
    · rename_i f hcal
      have fin : ∀ {fid : FuncId} {as : List AV} {us : List Value}, DenL σ I w as us → callE P S fid as o.dst K → (Callable P fid → (execOp a.eval o).run P w = .ok (.enter fid us.toArray) w) → o.wp P a w Kc Q := by
        intro fid as us hd hc hrun
        obtain ⟨h1, h2⟩ := callE_sound hrel hd hdst' hc
        unfold Oper.wp
        rw [hrun h1]
        refine h2.mono ?_
        rintro e w' ⟨u, rfl, S', σ', I', hk, hr⟩
        exact hK _ _ (At.put hdef hN hk hr)
      split at h
      · rename_i fid
        split at h
        · exact h.elim
        rename_i hg
        split at h
        · exact h.elim
        · rename_i hg2
          refine .inl ⟨by rw [hop]; simp [clsOf, hcal, Gq, hg, hg2], fin (DenL.mapρ hargs) h fun hcb => ?_⟩
          have hcf := run_callFunc hcb (c.args.toList.map a.eval).toArray w
          simp only [execOp, hop, resolve, hcal, Act.eval, Deferred.ofValue, Sem.run_bind, Sem.run_pure, Result.andThen_ok, invoke]
          rw [show c.args.map (fun x => a.eval x) = (c.args.toList.map a.eval).toArray from ea]
          simpa using hcf
      · rename_i t
        split at h
        · rename_i fid cap ef
          have hf := hρ (.tmp t) (by rw [hop]; simp [Op.operands, Call.operands, hcal])
          rw [ef] at hf
          simp only [Den] at hf
          obtain ⟨us, e1, e2⟩ := hf
          have happ : ∀ {as bs : List AV} {us vs : List Value}, DenL σ I w as us → DenL σ I w bs vs → DenL σ I w (as ++ bs) (us ++ vs) := by
            intro as
            induction as with
            | nil => intro bs us vs h1 h2; simp only [DenL] at h1; subst h1; simpa using h2
            | cons x as ih =>
              intro bs us vs h1 h2
              simp only [DenL] at h1
              obtain ⟨u, us', rfl, g1, g2⟩ := h1
              simp only [List.cons_append, DenL]
              exact ⟨u, us' ++ vs, rfl, g1, ih g2 h2⟩
          refine .inl ⟨by rw [hop]; simp [clsOf, hcal], fin (us := c.args.toList.map a.eval ++ us) (happ (DenL.mapρ hargs) e2) h fun hcb => ?_⟩
          have hcf := run_callFunc hcb (c.args.toList.map a.eval ++ us).toArray w
          simp only [execOp, hop, resolve, hcal, e1, Deferred.ofValue, Sem.run_bind, Sem.run_pure, Result.andThen_ok, invoke]
          rw [show c.args.map (fun x => a.eval x) = (c.args.toList.map a.eval).toArray from ea]
          simpa using hcf
        · exact h.elim
      · exact h.elim
    · exact h.elim
  · exact h.elim

theorem quietC_spec {o : Op} {fid : FuncId} {xs : List Operand} (h : quietC Γ o = some (fid, xs)) : ∃ c, o = .call c ∧ c.callee = .value (.func fid) ∧ xs = c.args.toList ∧ Γ fid = none ∧ (Γ (2000000 + fid)).isSome = true := by
  unfold quietC at h
  split at h
  · rename_i c
    split at h
    · rename_i f hcal
      split at h
      · rename_i fid'
        split at h
        · cases h
        · rename_i hg
          split at h
          · rename_i y hg2
            injection h with h
            injection h with h1 h2
            subst h1 h2
            exact ⟨c, rfl, hcal, rfl, hg, by rw [hg2]; rfl⟩
          · cases h
      · cases h
    · cases h
  · cases h
theorem stepX_sound (hT : TabOk P T) (hrel : Rel w0 I0 S σ I tm w) {a : Act} (ha : a.tmps = tm) (hdef : a.defers = []) (hN : a.tmps.size = N) {ρ : Operand → AV} {o : Oper} {K : AS → Prop} {Kc : Act → World → Prop}
    (hρ : ∀ x ∈ o.op.operands.toList, Den σ I w (ρ x) (a.eval x)) (hok : opOk N o = true) (h : stepX P T Γ ρ S o K) (hK : ∀ a' w', At w0 I0 N K a' w' → Kc a' w') :
    (clsOf (Gq Γ) o.op = .E ∧ o.wp P a w Kc Q) ∨ (clsOf (Gq Γ) o.op = .C ∧ o.wp P a w (fun a' w' => Same w w' ∧ Kc a' w') Q) := by
  unfold stepX at h
  split at h
  · rename_i fid xs hq
    obtain ⟨c, hop, hcal, rfl, hg, hg2⟩ := quietC_spec hq
    obtain ⟨hdst, _⟩ := opOk_spec hok
    have hdst' : ∀ t, o.dst = some t → t < tm.size := fun t e => by rw [← ha, hN]; exact hdst t e
    have hargs : DenL σ I w (c.args.toList.map ρ) (c.args.toList.map a.eval) := DenL.mapρ fun y hy => hρ y (by rw [hop]; simp [Op.operands, Call.operands, hcal]; exact .inr (by simpa using hy))
    obtain ⟨h1, h2⟩ := callC_sound hrel hargs hdst' h
    refine .inr ⟨by rw [hop]; simp [clsOf, hcal, Gq, hg, hg2], ?_⟩
    have hrun : (execOp a.eval o).run P w = .ok (.enter fid (c.args.toList.map a.eval).toArray) w := by
      have hcf := run_callFunc h1 (c.args.toList.map a.eval).toArray w
      have ea : c.args.map a.eval = (c.args.toList.map a.eval).toArray := map_arr _ _
      simp only [execOp, hop, resolve, hcal, Act.eval, Deferred.ofValue, Sem.run_bind, Sem.run_pure, Result.andThen_ok, invoke]
      rw [show c.args.map (fun x => a.eval x) = (c.args.toList.map a.eval).toArray from ea]
      simpa using hcf
    unfold Oper.wp
    rw [hrun]
    refine h2.mono ?_
    subst ha
    rintro e w' ⟨u, rfl, hs, S', σ', I', hk, hr⟩
    exact ⟨hs, hK _ _ (At.put hdef hN hk hr)⟩
  · exact stepE_sound hT hrel ha hdef hN hρ hok h hK

theorem gval_sound (hrel : Rel w0 I0 S σ I tm w) {a : Act} (ha : a.tmps = tm) {o : Oper} {j : Nat} {want g : Bool} (hg : o.guard = some (j, want)) (h : gval S (gslot ops j) want = some g) :
    Region.wanted o (yielded ops.toArray a.tmps) = g := by
  subst ha
  unfold gval at h
  split at h
  · cases h
  · rename_i d hd
    split at h
    case h_2 => cases h
    rename_i hlow
    have hy : yielded ops.toArray a.tmps j = match a.tmps[d]? with | some (.bool b) => some b | _ => none := by
      have hd' : (ops.toArray[j]?).bind (·.dst) = some d := by simpa [gslot] using hd
      unfold yielded
      rw [hd']
      rfl
    have hf := hrel.fr d
    rw [tv_low (by simpa using hlow)] at hf
    have getD : ∀ v, a.tmps.getD d undef = v → v ≠ undef → a.tmps[d]? = some v := fun v e hne => by
      by_cases hlt : d < a.tmps.size
      · simp [Array.getD, hlt] at e
        rw [Array.getElem?_eq_getElem hlt, e]
      · simp [Array.getD, hlt] at e
        exact absurd e.symm hne
    have hnb : ∀ b : Bool, Value.bool b ≠ undef := fun b e => by simp [undef] at e
    split at h
    · rename_i b hb
      rw [hb] at hf
      simp only [Den, L.rd] at hf
      have := getD _ hf.1 (hnb b)
      simp only [Region.wanted, hg, hy, this]
      cases want <;> cases b <;> cases g <;> simp_all
    · rename_i hh b hb
      rw [hb] at hf
      simp only [Den, L.rd] at hf
      simp only [Region.wanted, hg, hy]
      cases hh with
      | true =>
        have := getD _ (hf.1 rfl).1 (hnb b)
        rw [this]
        cases want <;> cases b <;> cases g <;> simp_all
      | false =>
        have hu := hf.2 rfl
        have hno : (match a.tmps[d]? with | some (.bool b) => some b | _ => none) = none := by
          by_cases hlt : d < a.tmps.size
          · simp [Array.getD, hlt] at hu
            rw [Array.getElem?_eq_getElem hlt, hu]
            rfl
          · rw [Array.getElem?_eq_none (Nat.le_of_not_lt hlt)]
        rw [hno]
        cases want <;> cases g <;> simp_all
    · rename_i hb
      rw [hb] at hf
      simp only [Den] at hf
      have hu := hf.2 trivial
      simp only [Region.wanted, hg, hy]
      have hno : (match a.tmps[d]? with | some (.bool b) => some b | _ => none) = none := by
        by_cases hlt : d < a.tmps.size
        · simp [Array.getD, hlt] at hu
          rw [Array.getElem?_eq_getElem hlt, hu]
          rfl
        · rw [Array.getElem?_eq_none (Nat.le_of_not_lt hlt)]
      rw [hno]
      cases want <;> cases g <;> simp_all
    · cases h

theorem wanted_none {o : Oper} (h : o.guard = none) (y : Nat → Option Bool) : Region.wanted o y = true := by simp [Region.wanted, h]

theorem nilQ_sound (hT : TabOk P T) (hrel : Rel w0 I0 S σ I tm w) {a : Act} (ha : a.tmps = tm) {o : Oper} (hok : ∀ x ∈ o.op.operands.toList, cstOk x = true) {n : Nat} {neg ex : Bool} (h : nilQ T S o.op = some (n, neg, ex)) :
    ∃ b, (b = true → n = 0) ∧ (ex = true → b = true) ∧ clsOf (Gq Γ) o.op = .W ∧ ∀ w', (execOp a.eval o).run P w' = .ok (.value (.bool (b != neg))) w' := by
  unfold nilQ at h
  split at h
  · rename_i op t x y yt hop
    split at h
    · rename_i c
      split at h
      · split at h
        · rename_i te hte
          split at h
          · rename_i e htd
            split at h
            · rename_i m hm
              have hu : P.underlying t = some (.slice e) := (hT t te hte).td (D := .slice e) htd (fun F => by simp) (by simp [TD.of])
              have hx := ev_sound hrel ha x (hok x (by rw [hop]; simp [Op.operands]))
              have key : ∃ A cap, a.eval x = .slice A m cap ∧ (0 < m → A ≠ none) ∧ (nilX (ev S x) = true → A = none) := by
                unfold nilLen at hm
                split at hm
                · rename_i sz n' f hev
                  injection hm with hm; subst hm
                  rw [hev] at hx
                  simp only [Den, L.rd] at hx
                  obtain ⟨A, cap, e1, _, _, e2⟩ := hx
                  exact ⟨A, cap, e1, fun h0 => by obtain ⟨b, rfl, _⟩ := e2 h0; simp, fun h0 => by rw [hev] at h0; cases h0⟩
                · rename_i sz n' f hev
                  injection hm with hm; subst hm
                  rw [hev] at hx
                  simp only [Den, L.rd] at hx
                  obtain ⟨⟨A, cap, e1, _, _, e2⟩, _⟩ := hx
                  exact ⟨A, cap, e1, fun h0 => by obtain ⟨b, rfl, _⟩ := e2 h0; simp, fun h0 => by rw [hev] at h0; cases h0⟩
                · rename_i q sz lo n' hev
                  injection hm with hm; subst hm
                  rw [hev] at hx
                  simp only [Den] at hx
                  obtain ⟨_, A, cap, e1, hnc, _, e2⟩ := hx
                  exact ⟨A, cap, e1, fun h0 => by obtain ⟨b, M, C, _, rfl, _⟩ := e2 (Nat.lt_of_lt_of_le h0 hnc); simp, fun h0 => by rw [hev] at h0; cases h0⟩
                · rename_i hev
                  injection hm with hm; subst hm
                  rw [hev] at hx
                  simp only [Den, L.rd] at hx
                  exact ⟨none, 0, hx.1, fun h0 => absurd h0 (Nat.lt_irrefl _), fun _ => rfl⟩
                · rename_i i hev
                  rw [hev] at hx
                  simp only [Den] at hx
                  split at hm
                  · rename_i e' sz n' sc f ho
                    injection hm with hm; subst hm
                    have hrr := (hrel.st.obj i _ ho).1
                    rw [hx.2.1]
                    obtain ⟨A, cap, e1, _⟩ := hrr.len
                    refine ⟨A, cap, e1, fun h0 => ?_, fun h0 => by rw [hev] at h0; cases h0⟩
                    obtain ⟨g, cap', cur, xs, hh, _⟩ := hrr.at h0
                    rw [hh] at e1; injection e1 with e1; rw [← e1]; simp
                  · cases hm
                · cases hm
              obtain ⟨A, cap, hA, hA2, hA3⟩ := key
              have heq : ∀ w', (Op.equal t (.slice A m cap) (.slice none 0 0)).run P w' = .ok A.isNone w' := fun w' => run_equal_slice_nil w' t e A m cap hu
              have hmn : m = n ∧ nilX (ev S x) = ex := by cases op <;> simp only at h <;> first | (injection h with h; injection h with h h2; injection h2 with _ h3; exact ⟨h, h3⟩) | cases h
              obtain ⟨hmn, hex⟩ := hmn
              subst hmn
              have hc : a.eval (.const (.slice none 0 0)) = .slice none 0 0 := rfl
              refine ⟨A.isNone, fun hb => ?_, fun hb => by rw [hA3 (hex.trans hb)]; rfl, by rw [hop]; rfl, fun w' => ?_⟩
              · cases A with
                | none => exact Nat.eq_zero_of_not_pos fun h0 => absurd rfl (hA2 h0)
                | some _ => cases hb
              · cases op <;> simp only at h <;> try (cases h; done)
                · injection h with h; injection h with _ h; injection h with h _; subst h
                  simp [execOp, hop, hA, hc, eqGuard, binOp, heq]
                · injection h with h; injection h with _ h; injection h with h _; subst h
                  simp [execOp, hop, hA, hc, eqGuard, binOp, heq]
            · cases h
          · cases h
        · cases h
      · cases h
    · cases h
  · cases h

theorem stepG_sound (hT : TabOk P T) (hG : GOk P Γ) (hrel : Rel w0 I0 S σ I tm w) {a : Act} (ha : a.tmps = tm) (hdef : a.defers = []) (hN : a.tmps.size = N) {i : Nat} {o : Oper} (hi : ops[i]? = some o) (hok : opOk N o = true)
    {K : AS → Prop} {Kc : Act → World → Prop} (h : stepG P T Γ ops o S K) (hK : ∀ a' w', At w0 I0 N K a' w' → Kc a' w') : cOp P (Gq Γ) ops.toArray Q i Kc a w := by
  subst ha
  obtain ⟨hdst, hcst⟩ := opOk_spec hok
  have hdst' : ∀ t, o.dst = some t → t < a.tmps.size := fun t e => by rw [hN]; exact hdst t e
  have hi' : ops.toArray[i]? = some o := by simpa using hi
  -- a pure step
  have pure_ : ∀ (b : Bool) (u : Value) (r : AV), Region.wanted o (yielded ops.toArray a.tmps) = b →
      ((clsOf (Gq Γ) o.op = .W ∧ ∀ w', (execOp a.eval o).run P w' = .ok (.value u) w') ∨ (clsOf (Gq Γ) o.op = .R ∧ ∀ w', Same w w' → o.quietAt P a (Same w') w' u) ∨ (clsOf (Gq Γ) o.op = .L ∧ ∀ w', Same w w' → (execOp a.eval o).run P w' = .ok (.value u) w') ∨ b = false ∧ u = undef ∧ clsOf (Gq Γ) o.op ≠ .E ∧ clsOf (Gq Γ) o.op ≠ .C) →
      Den σ I w r u → (b = false → u = undef) → K (S.put o.dst r) → cOp P (Gq Γ) ops.toArray Q i Kc a w := by
    intro b u r hw hu hden hb hk
    have hres : ∀ w', Same w w' → Kc (a.put o.dst u) w' := fun w' hw' => hK _ _ (At.put hdef hN hk ((hrel.same hw').put hdst' (hden.mono (Asg.le_refl σ) (hw'.keeps hrel.st.imm) (fun _ h => h))))
    unfold cOp
    simp only [hi']
    cases hcl : clsOf (Gq Γ) o.op with
    | W =>
      refine ⟨u, ?_, hres w (Same.refl w)⟩
      cases b with
      | true =>
        rcases hu with ⟨_, hu⟩ | ⟨hc, _⟩ | ⟨hc, _⟩ | ⟨hf, _⟩
        · exact .inl ⟨hw, hu⟩
        · rw [hcl] at hc; cases hc
        · rw [hcl] at hc; cases hc
        · cases hf
      | false => exact .inr ⟨hw, hb rfl⟩
    | R =>
      refine ⟨u, ?_, hres⟩
      cases b with
      | true =>
        rcases hu with ⟨hc, _⟩ | ⟨_, hu⟩ | ⟨hc, _⟩ | ⟨hf, _⟩
        · rw [hcl] at hc; cases hc
        · exact .inl ⟨hw, hu⟩
        · rw [hcl] at hc; cases hc
        · cases hf
      | false => exact .inr ⟨hw, hb rfl⟩
    | L =>
      refine ⟨u, ?_, hres w (Same.refl w)⟩
      cases b with
      | true =>
        rcases hu with ⟨hc, _⟩ | ⟨hc, _⟩ | ⟨_, hu⟩ | ⟨hf, _⟩
        · rw [hcl] at hc; cases hc
        · rw [hcl] at hc; cases hc
        · exact .inl ⟨hw, hu⟩
        · cases hf
      | false => exact .inr ⟨hw, hb rfl⟩
    | C => rcases hu with ⟨hc, _⟩ | ⟨hc, _⟩ | ⟨hc, _⟩ | ⟨_, _, _, hne⟩ <;> first | (rw [hcl] at hc; cases hc) | exact absurd hcl hne
    | E => rcases hu with ⟨hc, _⟩ | ⟨hc, _⟩ | ⟨hc, _⟩ | ⟨_, _, hne, _⟩ <;> first | (rw [hcl] at hc; cases hc) | exact absurd hcl hne
  have effC : clsOf (Gq Γ) o.op = .C → wpOp P ops.toArray Q i (fun a' w' => Same w w' ∧ Kc a' w') a w → cOp P (Gq Γ) ops.toArray Q i Kc a w := fun hcl hw => by
    unfold cOp
    simp only [hi', hcl]
    exact hw
  have eff : clsOf (Gq Γ) o.op = .E → wpOp P ops.toArray Q i Kc a w → cOp P (Gq Γ) ops.toArray Q i Kc a w := fun hcl hw => by
    unfold cOp
    simp only [hi', hcl]
    exact hw
  have opsub : ∀ x ∈ gops o.op, x ∈ o.op.operands.toList := fun x hx => by
    cases hop : o.op <;> rw [hop] at hx <;> first | exact hx | skip
    simp [gops] at hx
    subst hx
    simp [Op.operands]
  unfold stepG at h
  split at h
  · rename_i hgd
    split at h
    · rename_i n neg ex hq
      obtain ⟨b, h1, h1x, h2, h3⟩ := nilQ_sound (Γ := Γ) hT hrel rfl hcst hq
      have hk := h.all b h1 h1x
      rw [putK_eq] at hk
      exact pure_ true _ _ (wanted_none hgd _) (.inl ⟨h2, h3⟩) (by simp only [boolV, Den, L.rd]; exact ⟨trivial, rfl⟩) (fun e => by cases e) hk
    split at h
    · rename_i s r hpv
      have h := Sd.and_spec h
      rw [forceA_eq, putK_eq] at h
      obtain ⟨u, hden, hu⟩ := pvx_sound (st := false) hT hG hrel rfl (fun x hx => ev_sound hrel rfl x (hcst x (opsub x hx))) hcst hpv h.1
      exact pure_ true u r (wanted_none hgd _) (hu.imp id (fun h => h.imp id .inl)) hden (fun e => by cases e) h.2
    · simp only [forceS_eq] at h
      rcases stepX_sound (Q := Q) hT hrel rfl hdef hN (fun x hx => ev_sound hrel rfl x (hcst x hx)) hok h hK with ⟨hcl, hwp⟩ | ⟨hcl, hwp⟩
      · refine eff hcl ?_
        unfold wpOp
        simp only [hi', wanted_none hgd, if_true]
        exact .inl hwp
      · refine effC hcl ?_
        unfold wpOp
        simp only [hi', wanted_none hgd, if_true]
        exact .inl hwp
  · rename_i j want hgd
    split at h
    · exact h.elim
    · rename_i g hgv
      have hw := gval_sound hrel rfl hgd hgv
      split at h
      · rename_i s r hpv
        obtain ⟨hall, h⟩ := allGK_spec h
        obtain ⟨hs, hk⟩ := Sd.andG_spec h
        rw [forceA_eq, putK_eq] at hk
        cases g with
        | true =>
          obtain ⟨u, hden, hu⟩ := pvx_sound hT hG hrel rfl (rho_den hrel rfl rfl hall fun x hx => hcst x (opsub x hx)) hcst hpv (hs rfl)
          exact pure_ true u _ hw (hu.imp id (fun h => h.imp id .inl)) (by simp only [Den]; exact ⟨fun _ => hden, fun e => by cases e⟩) (fun e => by cases e) hk
        | false =>
          have key : ∀ c : Cls, c = .E ∨ c = .C → clsOf (Gq Γ) o.op ≠ c := by
            rintro c hc hE
            unfold pvx at hpv
            split at hpv
            · rename_i hop; rw [hop] at hE; rcases hc with rfl | rfl <;> cases hE
            · rename_i c hop
              split at hpv
              · rename_i f hcal
                split at hpv
                · rename_i fid
                  unfold gcall at hpv
                  split at hpv
                  · rename_i gg hgg
                    rw [hop] at hE
                    rcases hc with rfl | rfl <;> simp [clsOf, hcal, Gq, hgg] at hE
                  · cases hpv
                · cases hpv
              · rename_i hcal
                have := pv_cls (Gq Γ) hpv (fun c' v e => by injection e with e; subst e; exact fun e => hcal _ e) (fun s d x e => by cases e)
                rw [hop] at hE
                rw [hE] at this
                rcases hc with rfl | rfl <;> rcases this with h | h <;> cases h
            · rename_i src dst x hop
              split at hpv
              · cases hpv
              · rename_i hg
                rw [hop] at hE
                rcases hc with rfl | rfl <;> simp [clsOf, Gq, hg] at hE
            · rename_i hnp hnc hncv
              have := pv_cls (Gq Γ) hpv (fun c v e => absurd e (hnc c)) (fun s d x e => absurd e (hncv s d x))
              rw [hE] at this
              rcases hc with rfl | rfl <;> rcases this with h | h <;> cases h
          exact pure_ false undef _ hw (.inr (.inr (.inr ⟨rfl, rfl, key _ (.inl rfl), key _ (.inr rfl)⟩))) (by simp [Den]) (fun _ => rfl) hk
      · obtain ⟨hall, ht, hf⟩ := allGK_spec h
        simp only [forceS_eq, putK_eq] at ht hf
        cases g with
        | true =>
          rcases stepX_sound (Q := Q) hT hrel rfl hdef hN (rho_den hrel rfl rfl hall hcst) hok (ht rfl) hK with ⟨hcl, hwp⟩ | ⟨hcl, hwp⟩
          · refine eff hcl ?_
            unfold wpOp
            simp only [hi', hw, if_true]
            exact .inl hwp
          · refine effC hcl ?_
            unfold wpOp
            simp only [hi', hw, if_true]
            exact .inl hwp
        | false =>
          have hk := hf rfl
          cases hcl : clsOf (Gq Γ) o.op with
          | E =>
            refine eff hcl ?_
            unfold wpOp
            simp only [hi', hw, Bool.false_eq_true, if_false]
            exact hK _ _ (At.put hdef hN hk (hrel.put hdst' (by simp [Den])))
          | W => exact pure_ false undef _ hw (.inr (.inr (.inr ⟨rfl, rfl, by rw [hcl]; exact fun e => (by cases e), by rw [hcl]; exact fun e => (by cases e)⟩))) (by simp [Den]) (fun _ => rfl) hk
          | R => exact pure_ false undef _ hw (.inr (.inr (.inr ⟨rfl, rfl, by rw [hcl]; exact fun e => (by cases e), by rw [hcl]; exact fun e => (by cases e)⟩))) (by simp [Den]) (fun _ => rfl) hk
          | L => exact pure_ false undef _ hw (.inr (.inr (.inr ⟨rfl, rfl, by rw [hcl]; exact fun e => (by cases e), by rw [hcl]; exact fun e => (by cases e)⟩))) (by simp [Den]) (fun _ => rfl) hk
          | C =>
            refine effC hcl ?_
            unfold wpOp
            simp only [hi', hw, Bool.false_eq_true, if_false]
            exact ⟨Same.refl w, hK _ _ (At.put hdef hN hk (hrel.put hdst' (by simp [Den])))⟩

end
end Go.Proofs.YtjfnhehjhicnoaaDoor
