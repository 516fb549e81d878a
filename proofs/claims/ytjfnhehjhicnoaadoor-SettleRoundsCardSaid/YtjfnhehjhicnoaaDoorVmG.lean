/-
  Contracts of functions, and calls.
-/
import Derived.Test.YtjfnhehjhicnoaaDoorVmF
import Derived.Maps.AppendAt
namespace Go.Proofs.YtjfnhehjhicnoaaDoor
open Go.RowKit

def Callable (P : Program) (f : FuncId) : Prop := ∃ fn, P.funcs[f]? = some fn ∧ (fn.name == "runtime.NumGoroutine") = false ∧ fn.body.isNone = false

def FnPost (w : World) (I : Nat → Prop) (K : List OB → AV → Prop) (e : Ending) (w' : World) : Prop :=
  ∃ (u : Value) (σ : Asg) (I' : Nat → Prop) (obs : List OB) (r : AV), e = .returned u ∧ K obs r ∧ Same w w' ∧ (∀ b, I b → I' b) ∧ (∀ b, I' b → I b ∨ w.heap.size ≤ b) ∧ Store σ I' w' (fun b => w.heap.size ≤ b) obs ∧ Den σ I' w' r u

/-- called with values that read as 'args' the function returns, and what it returns is as K says -/
def Fn (P : Program) (f : FuncId) (args : List AV) (K : List OB → AV → Prop) : Prop :=
  Callable P f ∧ ∀ (w : World) (I : Nat → Prop) (vs : List Value), (∀ b, I b → b < w.heap.size) → DenL Asg.zero I w args vs → Calls P f vs.toArray w (FnPost w I K)

theorem Fn.mono {P : Program} {f : FuncId} {args : List AV} {K K' : List OB → AV → Prop} (h : Fn P f args K) (hk : ∀ obs r, K obs r → K' obs r) : Fn P f args K' :=
  ⟨h.1, fun w I vs hI hd => (h.2 w I vs hI hd).mono fun _ _ ⟨u, σ, I', obs, r, h1, h2, h3⟩ => ⟨u, σ, I', obs, r, h1, hk _ _ h2, h3⟩⟩

/-- the plain form: one value, no object -/
def Fn1 (P : Program) (f : FuncId) (args : List AV) (r : AV) : Prop := Fn P f args fun obs r' => obs = [] ∧ r' = r

abbrev Gam := FuncId → Option (List AV → Sd × AV)

mutual
def AV.exact : AV → Option Value
  | .c (.v x) => some x
  | .agg cs => (AV.exactL cs).map fun l => .agg l.toArray
  | .tup cs => (AV.exactL cs).map fun l => .tuple l.toArray
  | _ => none
def AV.exactL : List AV → Option (List Value)
  | [] => some []
  | a :: r => match AV.exact a, AV.exactL r with
    | some x, some xs => some (x :: xs)
    | _, _ => none
end

mutual
theorem exact_den {σ : Asg} {I : Nat → Prop} {w : World} : ∀ {a : AV} {x u : Value}, a.exact = some x → Den σ I w a u → u = x ∧ ∀ σ' I' w', Den σ' I' w' a u
  | .c l, x, u, h, hd => by
    cases l with
    | v y =>
      simp only [AV.exact] at h; injection h with h; subst h
      simp only [Den, L.rd] at hd ⊢
      exact ⟨hd.1, fun _ _ _ => hd⟩
    | un => simp [AV.exact] at h
    | sl => simp [AV.exact] at h
  | .agg cs, x, u, h, hd => by
    simp only [AV.exact, Option.map_eq_some_iff] at h
    obtain ⟨l, hl, rfl⟩ := h
    simp only [Den] at hd ⊢
    obtain ⟨us, rfl, h1, h2⟩ := hd
    obtain ⟨rfl, h3⟩ := exactL_den hl h1
    exact ⟨rfl, fun σ' I' w' => ⟨us, rfl, h3 σ' I' w', h2⟩⟩
  | .tup cs, x, u, h, hd => by
    simp only [AV.exact, Option.map_eq_some_iff] at h
    obtain ⟨l, hl, rfl⟩ := h
    simp only [Den] at hd ⊢
    obtain ⟨us, rfl, h1⟩ := hd
    obtain ⟨rfl, h3⟩ := exactL_den hl h1
    exact ⟨rfl, fun σ' I' w' => ⟨us, rfl, h3 σ' I' w'⟩⟩
  | .top, x, u, h, hd => by simp [AV.exact] at h
  | .xp .., x, u, h, hd => by simp [AV.exact] at h
  | .lp .., x, u, h, hd => by simp [AV.exact] at h
  | .rp .., x, u, h, hd => by simp [AV.exact] at h
  | .own _, x, u, h, hd => by simp [AV.exact] at h
  | .fn .., x, u, h, hd => by simp [AV.exact] at h
  | .gd .., x, u, h, hd => by simp [AV.exact] at h
  | .ov .., x, u, h, hd => by simp [AV.exact] at h
  | .cp .., x, u, h, hd => by simp [AV.exact] at h
  | .gh .., x, u, h, hd => by simp [AV.exact] at h
  | .av .., x, u, h, hd => by simp [AV.exact] at h
  | .gt .., x, u, h, hd => by simp [AV.exact] at h
  | .sb .., x, u, h, hd => by simp [AV.exact] at h
  | .gr .., x, u, h, hd => by simp [AV.exact] at h
  | .gp .., x, u, h, hd => by simp [AV.exact] at h
theorem exactL_den {σ : Asg} {I : Nat → Prop} {w : World} : ∀ {as : List AV} {xs us : List Value}, AV.exactL as = some xs → DenL σ I w as us → us = xs ∧ ∀ σ' I' w', DenL σ' I' w' as us
  | [], xs, us, h, hd => by
    simp only [AV.exactL] at h; injection h with h; subst h
    simp only [DenL] at hd ⊢
    exact ⟨hd, fun _ _ _ => hd⟩
  | a :: as, xs, us, h, hd => by
    simp only [AV.exactL] at h
    split at h
    · rename_i x xs' h1 h2
      injection h with h; subst h
      simp only [DenL] at hd ⊢
      obtain ⟨u, us', rfl, g1, g2⟩ := hd
      obtain ⟨rfl, k1⟩ := exact_den h1 g1
      obtain ⟨rfl, k2⟩ := exactL_den h2 g2
      exact ⟨rfl, fun σ' I' w' => ⟨u, us', rfl, k1 σ' I' w', k2 σ' I' w'⟩⟩
    · cases h
end

def GOk (P : Program) (Γ : Gam) : Prop := ∀ f g, Γ f = some g → ∀ args, (g args).1.ok → (g args).2.exact.isSome = true → Fn1 P f args (g args).2

mutual
/-- a value that leans on no block that may not be written -/
def AV.scal : AV → Bool
  | .c (.v _) => true
  | .agg cs => AV.scalL cs
  | .tup cs => AV.scalL cs
  | .lp .. => true
  | .own _ => true
  | .ov .. => true
  | _ => false
def AV.scalL : List AV → Bool
  | [] => true
  | a :: r => AV.scal a && AV.scalL r
end

def OB.scal : OB → Bool
  | .dead => true
  | .box cs => AV.scalL cs
  | .row _ _ _ sc _ => sc
  | .arr _ _ sc _ => sc
  | .keys _ => true
  | .bld .. => true
  | .grid .. => true

mutual
/-- the objects' numbers moved on by n -/
def AV.sh (n : Nat) : AV → AV
  | .lp i o => .lp (i + n) o
  | .rp i sz k j => .rp (i + n) sz k j
  | .own i => .own (i + n)
  | .agg cs => .agg (AV.shL n cs)
  | .tup cs => .tup (AV.shL n cs)
  | .fn f cs => .fn f (AV.shL n cs)
  | .gd b a => .gd b (AV.sh n a)
  | .top => .top
  | .c l => .c l
  | .xp k f => .xp k f
  | .ov i sz lo m => .ov (i + n) sz lo m
  | .cp sz m f => .cp sz m f
  | .gh i => .gh (i + n)
  | .av m f => .av m f
  | .gt g cs => .gt g cs
  | .sb i m => .sb (i + n) m
  | .gr i k m => .gr (i + n) k m
  | .gp i k j => .gp (i + n) k j
def AV.shL (n : Nat) : List AV → List AV
  | [] => []
  | a :: r => AV.sh n a :: AV.shL n r
end

def OB.sh (n : Nat) : OB → OB
  | .box cs => .box (AV.shL n cs)
  | o => o

def Asg.cat (σ τ : Asg) : Asg := ⟨σ.cnt + τ.cnt, fun i => if i < σ.cnt then σ.blk i else τ.blk (i - σ.cnt), fun i => if i < σ.cnt then σ.hdr i else τ.hdr (i - σ.cnt), fun i => if i < σ.cnt then σ.sub i else τ.sub (i - σ.cnt)⟩
theorem Asg.le_cat (σ τ : Asg) : σ.le (σ.cat τ) := ⟨Nat.le_add_right _ _, fun i hi => by simp [Asg.cat, hi], fun i hi => by simp [Asg.cat, hi], fun i hi => by simp [Asg.cat, hi]⟩
theorem Asg.cat_blk (σ τ : Asg) (i : Nat) : (σ.cat τ).blk (i + σ.cnt) = τ.blk i := by
  simp only [Asg.cat]
  rw [if_neg (by omega)]
  congr 1
  omega
theorem Asg.cat_hdr (σ τ : Asg) (i : Nat) : (σ.cat τ).hdr (i + σ.cnt) = τ.hdr i := by
  simp only [Asg.cat]
  rw [if_neg (by omega)]
  congr 1
  omega

theorem Asg.cat_sub (σ τ : Asg) (i : Nat) : (σ.cat τ).sub (i + σ.cnt) = τ.sub i := by
  simp only [Asg.cat]
  rw [if_neg (by omega)]
  congr 1
  omega
theorem Asg.cat_has {σ τ : Asg} {i x : Nat} : (σ.cat τ).has (i + σ.cnt) x ↔ τ.has i x := by
  unfold Asg.has
  rw [Asg.cat_blk, Asg.cat_sub]

section
variable {σ τ : Asg} {I I' : Nat → Prop} {w w' : World}

mutual
theorem sh_den : ∀ {a : AV} {u : Value}, Den τ I w a u → Den (σ.cat τ) I w (a.sh σ.cnt) u
  | .lp i o, u, h => by
    simp only [AV.sh, Den] at h ⊢
    obtain ⟨h1, b, h2, h3⟩ := h
    exact ⟨by simp only [Asg.cat]; omega, b, by rw [Asg.cat_blk]; exact h2, h3⟩
  | .rp i sz k j, u, h => by
    simp only [AV.sh, Den] at h ⊢
    obtain ⟨h1, b, h2, h3⟩ := h
    exact ⟨by simp only [Asg.cat]; omega, b, by rw [Asg.cat_blk]; exact h2, h3⟩
  | .own i, u, h => by
    simp only [AV.sh, Den] at h ⊢
    exact ⟨by simp only [Asg.cat]; omega, by rw [Asg.cat_hdr]; exact h.2.1, h.2.2⟩
  | .agg cs, u, h => by
    simp only [AV.sh, Den] at h ⊢
    obtain ⟨us, e, h1, h2⟩ := h
    exact ⟨us, e, shL_den h1, h2⟩
  | .tup cs, u, h => by
    simp only [AV.sh, Den] at h ⊢
    obtain ⟨us, e, h1⟩ := h
    exact ⟨us, e, shL_den h1⟩
  | .fn f cs, u, h => by
    simp only [AV.sh, Den] at h ⊢
    obtain ⟨us, e, h1⟩ := h
    exact ⟨us, e, shL_den h1⟩
  | .gd b a, u, h => by
    simp only [AV.sh, Den] at h ⊢
    exact ⟨fun hb => sh_den (h.1 hb), h.2⟩
  | .top, u, h => by simp only [AV.sh, Den]
  | .c l, u, h => by simpa only [AV.sh, Den] using h
  | .xp k f, u, h => by simpa only [AV.sh, Den] using h
  | .ov i sz lo m, u, h => by
    simp only [AV.sh, Den] at h ⊢
    obtain ⟨h1, A, cap, h2, h3, h4, h5⟩ := h
    exact ⟨by simp only [Asg.cat]; omega, A, cap, h2, h3, h4, fun h0 => by rw [Asg.cat_hdr]; exact h5 h0⟩
  | .cp sz m f, u, h => by simpa only [AV.sh, Den] using h
  | .av m f, u, h => by simpa only [AV.sh, Den] using h
  | .gt g cs, u, h => by simpa only [AV.sh, Den] using h
  | .sb i m, u, h => by
    simp only [AV.sh, Den] at h ⊢
    obtain ⟨h1, b, h2, h3⟩ := h
    exact ⟨by simp only [Asg.cat]; omega, b, by rw [Asg.cat_blk]; exact h2, h3⟩
  | .gr i k m, u, h => by
    simp only [AV.sh, Den] at h ⊢
    rw [Asg.cat_sub]
    exact ⟨by simp only [Asg.cat]; omega, h.2⟩
  | .gp i k m, u, h => by
    simp only [AV.sh, Den] at h ⊢
    rw [Asg.cat_sub]
    exact ⟨by simp only [Asg.cat]; omega, h.2⟩
  | .gh i, u, h => by
    simp only [AV.sh, Den] at h ⊢
    rw [Asg.cat_hdr, Asg.cat_blk, Asg.cat_sub]
    exact ⟨by simp only [Asg.cat]; omega, h.2⟩
theorem shL_den : ∀ {as : List AV} {us : List Value}, DenL τ I w as us → DenL (σ.cat τ) I w (AV.shL σ.cnt as) us
  | [], us, h => by simpa only [AV.shL, DenL] using h
  | a :: as, us, h => by
    simp only [AV.shL, DenL] at h ⊢
    obtain ⟨u, us', e, h1, h2⟩ := h
    exact ⟨u, us', e, sh_den h1, shL_den h2⟩
end

theorem sh_live (n : Nat) (o : OB) : (o.sh n).live = o.live := by cases o <;> rfl

theorem sh_obj {i : Nat} {o : OB} (h : ObjRel τ I w i o) : ObjRel (σ.cat τ) I w (i + σ.cnt) (o.sh σ.cnt) := by
  cases o with
  | dead => trivial
  | box cs =>
    obtain ⟨b, us, ty, h1, h2, h3, h4⟩ := h
    exact ⟨b, us, ty, by rw [Asg.cat_blk]; exact h1, h2, shL_den h3, h4⟩
  | row e sz n sc f => exact ⟨h.1.mono (Asg.cat_hdr σ τ i) (Asg.cat_blk σ τ i) (Keeps.refl I w) (fun _ h => h) (fun _ _ => rfl), h.2⟩
  | arr sz n sc f =>
    obtain ⟨⟨b, xs, ty, h1, h2⟩, h3⟩ := h
    exact ⟨⟨b, xs, ty, (Asg.cat_blk σ τ i).trans h1, h2⟩, h3⟩
  | keys ks =>
    obtain ⟨b, es, clock, h1, h2, h3⟩ := h
    exact ⟨b, es, clock, (Asg.cat_blk σ τ i).trans h1, (Asg.cat_hdr σ τ i).trans h2, h3⟩
  | bld T e b l =>
    show BldRel _ _ _ _ _ _ _
    rw [Asg.cat_blk, Asg.cat_sub]
    exact h
  | grid e n m f =>
    show GridRel _ _ _ _ _ _ _ _
    rw [Asg.cat_hdr, Asg.cat_blk, Asg.cat_sub]
    exact h

/-- what a callee made is laid beside what the caller has -/
theorem Store.cat {B B' : Nat → Prop} {obs obs' : List OB} (h : Store σ I w' B obs) (h' : Store τ I w' B' obs') (hB : ∀ b, B' b → B b) (hlt : ∀ i o b, obs[i]? = some o → o.live = true → σ.has i b → ¬ B' b) :
    Store (σ.cat τ) I w' B (obs ++ obs'.map (OB.sh σ.cnt)) := by
  have hle := Asg.le_cat σ τ
  have at_ : ∀ (i : Nat) o', (obs ++ obs'.map (OB.sh σ.cnt))[i]? = some o' → (i < obs.length ∧ obs[i]? = some o') ∨ (∃ k o, i = k + σ.cnt ∧ obs'[k]? = some o ∧ o' = o.sh σ.cnt) := fun i o' e => by
    by_cases hi : i < obs.length
    · rw [List.getElem?_append_left hi] at e; exact .inl ⟨hi, e⟩
    · rw [List.getElem?_append_right (by omega), List.getElem?_map, Option.map_eq_some_iff] at e
      obtain ⟨o, e1, e2⟩ := e
      exact .inr ⟨i - obs.length, o, by rw [h.cnt]; omega, e1, e2.symm⟩
  have hasOld : ∀ i x, i < obs.length → ((σ.cat τ).has i x ↔ σ.has i x) := fun i x hi => hle.has (by rw [h.cnt]; exact hi)
  refine ⟨by simp [Asg.cat, h.cnt, h'.cnt], h.imm, fun i o' e => ?_, fun i o' x e hl ex => ?_, fun i j oi oj x ei ej li lj exi exj => ?_⟩
  · rcases at_ i o' e with ⟨hi, e'⟩ | ⟨k, o, rfl, e', rfl⟩
    · exact (h.obj i o' e').mono hle (by rw [h.cnt]; exact hi) (Keeps.refl I w') (fun _ h => h) (fun _ _ => rfl)
    · exact sh_obj (h'.obj k o e')
  · rcases at_ i o' e with ⟨hi, e'⟩ | ⟨k, o, rfl, e', rfl⟩
    · rw [hasOld i x hi] at ex
      exact h.freshH i o' x e' hl ex
    · rw [Asg.cat_has] at ex
      rw [sh_live] at hl
      obtain ⟨h1, h2, h3⟩ := h'.freshH k o x e' hl ex
      exact ⟨hB x h1, h2, h3⟩
  · rcases at_ i oi ei with ⟨hi, ei'⟩ | ⟨k, o, rfl, ei', rfl⟩ <;> rcases at_ j oj ej with ⟨hj, ej'⟩ | ⟨k', o', rfl, ej', rfl⟩
    · rw [hasOld i x hi] at exi
      rw [hasOld j x hj] at exj
      exact h.injH i j oi oj x ei' ej' li lj exi exj
    · rw [hasOld i x hi] at exi
      rw [Asg.cat_has] at exj
      rw [sh_live] at lj
      have h1 := hlt i oi x ei' li exi
      have h2 := (h'.freshH k' o' x ej' lj exj).1
      exact absurd h2 h1
    · rw [hasOld j x hj] at exj
      rw [Asg.cat_has] at exi
      rw [sh_live] at li
      have h1 := hlt j oj x ej' lj exj
      have h2 := (h'.freshH k o x ei' li exi).1
      exact absurd h2 h1
    · rw [Asg.cat_has] at exi exj
      rw [sh_live] at li lj
      have := h'.injH k k' o o' x ei' ej' li lj exi exj
      omega

mutual
theorem scal_den : ∀ {a : AV} {u : Value}, a.scal = true → Den σ I w a u → Den σ I' w' a u
  | .c l, u, h, hd => by
    cases l with
    | v x => simpa only [Den, L.rd] using hd
    | un => simp [AV.scal] at h
    | sl => simp [AV.scal] at h
  | .agg cs, u, h, hd => by
    simp only [AV.scal] at h
    simp only [Den] at hd ⊢
    obtain ⟨us, e, h1, h2⟩ := hd
    exact ⟨us, e, scalL_den h h1, h2⟩
  | .tup cs, u, h, hd => by
    simp only [AV.scal] at h
    simp only [Den] at hd ⊢
    obtain ⟨us, e, h1⟩ := hd
    exact ⟨us, e, scalL_den h h1⟩
  | .lp .., u, h, hd => by simpa only [Den] using hd
  | .own _, u, h, hd => by simpa only [Den] using hd
  | .ov .., u, h, hd => by simpa only [Den] using hd
  | .cp .., u, h, hd => by simp [AV.scal] at h
  | .gh .., u, h, hd => by simp [AV.scal] at h
  | .av .., u, h, hd => by simp [AV.scal] at h
  | .gt .., u, h, hd => by simp [AV.scal] at h
  | .sb .., u, h, hd => by simp [AV.scal] at h
  | .gr .., u, h, hd => by simp [AV.scal] at h
  | .gp .., u, h, hd => by simp [AV.scal] at h
  | .top, u, h, hd => by simp [AV.scal] at h
  | .xp .., u, h, hd => by simp [AV.scal] at h
  | .rp .., u, h, hd => by simp [AV.scal] at h
  | .fn .., u, h, hd => by simp [AV.scal] at h
  | .gd .., u, h, hd => by simp [AV.scal] at h
theorem scalL_den : ∀ {as : List AV} {us : List Value}, AV.scalL as = true → DenL σ I w as us → DenL σ I' w' as us
  | [], us, _, hd => by simpa only [DenL] using hd
  | a :: as, us, h, hd => by
    simp only [AV.scalL, Bool.and_eq_true] at h
    simp only [DenL] at hd ⊢
    obtain ⟨u, us', e, h1, h2⟩ := hd
    exact ⟨u, us', e, scal_den h.1 h1, scalL_den h.2 h2⟩
end

theorem scal_obj {i : Nat} {o : OB} (h : o.scal = true) (hr : ObjRel σ I w i o) : ObjRel σ I' w i o := by
  cases o with
  | dead => trivial
  | box cs =>
    obtain ⟨b, us, ty, h1, h2, h3, h4⟩ := hr
    exact ⟨b, us, ty, h1, h2, scalL_den h h3, h4⟩
  | row e sz n sc f =>
    obtain ⟨h1, h4⟩ := hr
    simp only [OB.scal] at h
    refine ⟨?_, h4⟩
    rcases h1 with h0 | ⟨h0, xs, h1, h2, h3⟩
    · exact .inl h0
    · exact .inr ⟨h0, xs, h1, h2, fun k hk j hj => by
        obtain ⟨c, e1, e2⟩ := h3 k hk j hj
        exact ⟨c, e1, L.rd_scal (h4 h k j) e2⟩⟩
  | arr sz n sc f =>
    obtain ⟨⟨b, xs, ty, h1, h2, h3, h5, h6⟩, h4⟩ := hr
    simp only [OB.scal] at h
    exact ⟨⟨b, xs, ty, h1, h2, h3, h5, fun k hk j hj => by
      obtain ⟨c, e1, e2⟩ := h6 k hk j hj
      exact ⟨c, e1, L.rd_scal (h4 h k j) e2⟩⟩, h4⟩
  | keys ks => exact hr
  | bld => exact hr
  | grid e n m f => exact hr

/-- more blocks that nobody writes -/
theorem Store.moreI {B : Nat → Prop} {obs : List OB} (h : Store σ I w B obs) (hI : ∀ b, I b → I' b) (hlt : ∀ b, I' b → b < w.heap.size) (hno : ∀ i o b, obs[i]? = some o → o.live = true → σ.has i b → ¬ I' b) : Store σ I' w B obs :=
  ⟨h.cnt, hlt, fun i o e => (h.obj i o e).mono (Asg.le_refl σ) (by rw [h.cnt]; exact (List.getElem?_eq_some_iff.1 e).1) (Keeps.refl I w) hI (fun _ _ => rfl),
    fun i o b e hl hb => ⟨(h.freshH i o b e hl hb).1, hno i o b e hl hb, (h.freshH i o b e hl hb).2.2⟩, h.injH⟩
end

/-- the state behind a call -/
def retS (S : AS) (ids : List Nat) (obs' : List OB) (r : AV) (dst : Option Tmp) : AS :=
  AS.put { fr := S.fr, obs := (if (r.scal && obs'.all OB.scal) then S.obs else killL S.obs ids) ++ obs'.map (OB.sh S.obs.length) } dst (r.sh S.obs.length)

/-- which blocks a call may write: those of the objects that it is handed, and new ones -/
def ownF (w : World) (σ : Asg) (obs : List OB) : Nat → Prop := fun b => w.heap.size ≤ b ∨ ∃ i o, obs[i]? = some o ∧ o.live = true ∧ σ.has i b

def FnPostM (w : World) (F I : Nat → Prop) (σ0 : Asg) (K : List OB → AV → Prop) (e : Ending) (w' : World) : Prop :=
  ∃ (u : Value) (σ : Asg) (I' : Nat → Prop) (obs : List OB) (r : AV), e = .returned u ∧ K obs r ∧ SameF F w w' ∧ (∀ b, I b → I' b) ∧ (∀ b, I' b → I b ∨ F b) ∧ Store σ I' w' F obs ∧ Den σ I' w' r u ∧ σ0.le σ

/-- called with objects that it may write: the first objects behind it are these -/
def FnM (P : Program) (f : FuncId) (obs0 : List OB) (args : List AV) (K : List OB → AV → Prop) : Prop :=
  Callable P f ∧ ∀ (w : World) (I : Nat → Prop) (σ0 : Asg) (vs : List Value), Store σ0 I w (ownF w σ0 obs0) obs0 → DenL σ0 I w args vs → Calls P f vs.toArray w (FnPostM w (ownF w σ0 obs0) I σ0 K)

theorem FnM.mono {P : Program} {f : FuncId} {obs0 : List OB} {args : List AV} {K K' : List OB → AV → Prop} (h : FnM P f obs0 args K) (hk : ∀ obs r, K obs r → K' obs r) : FnM P f obs0 args K' :=
  ⟨h.1, fun w I σ0 vs hs hd => (h.2 w I σ0 vs hs hd).mono fun _ _ ⟨u, σ, I', obs, r, h1, h2, h3⟩ => ⟨u, σ, I', obs, r, h1, hk _ _ h2, h3⟩⟩

def pos (i : Nat) : List Nat → Option Nat
  | [] => none
  | j :: r => if j = i then some 0 else match pos i r with
    | some k => some (k + 1)
    | none => none

mutual
/-- an argument as the callee sees it: the objects 'ids' are handed over, the others may not be written meanwhile -/
def argM (obs : List OB) (ids : List Nat) : AV → AV
  | .own i => match pos i ids with
    | some k => .own k
    | none => frz obs (.own i)
  | .lp i off => match pos i ids with
    | some k => .lp k off
    | none => frz obs (.lp i off)
  | .rp i sz k j => match pos i ids with
    | some q => .rp q sz k j
    | none => .top
  | .ov i sz lo n => match pos i ids with
    | some q => .ov q sz lo n
    | none => frz obs (.ov i sz lo n)
  | .agg cs => .agg (argML obs ids cs)
  | .tup cs => .tup (argML obs ids cs)
  | .fn f cap => .fn f (argML obs ids cap)
  | .gd _ _ => .top
  | .top => .top
  | .c l => .c l
  | .xp n f => .xp n f
  | .cp sz n f => .c (.sl sz n f)
  | .gh _ => .top
  | .av n f => .av n f
  | .gt g cs => .gt g cs
  | .sb i n => match pos i ids with
    | some q => .sb q n
    | none => frz obs (.sb i n)
  | .gr .. => .top
  | .gp .. => .top
def argML (obs : List OB) (ids : List Nat) : List AV → List AV
  | [] => []
  | a :: r => argM obs ids a :: argML obs ids r
end
mutual
def idsM (obs : List OB) (ids : List Nat) : AV → List Nat
  | .own i => match pos i ids with
    | some _ => []
    | none => [i]
  | .lp i off => match pos i ids with
    | some _ => []
    | none => idsOf obs (.lp i off)
  | .ov i _ _ _ => match pos i ids with
    | some _ => []
    | none => [i]
  | .sb i n => match pos i ids with
    | some _ => []
    | none => idsOf obs (.sb i n)
  | .agg cs => idsML obs ids cs
  | .tup cs => idsML obs ids cs
  | .fn _ cap => idsML obs ids cap
  | _ => []
def idsML (obs : List OB) (ids : List Nat) : List AV → List Nat
  | [] => []
  | a :: r => idsM obs ids a ++ idsML obs ids r
end
def objM (obs : List OB) (ids : List Nat) : Option OB → OB
  | some (.box cs) => .box (argML obs ids cs)
  | some o => o
  | none => .dead
def objsM (obs : List OB) (ids : List Nat) : List Nat → List OB
  | [] => []
  | i :: r => objM obs ids obs[i]? :: objsM obs ids r
def oidsM (obs : List OB) (ids : List Nat) : List Nat → List Nat
  | [] => []
  | i :: r => (match obs[i]? with
    | some (.box cs) => idsML obs ids cs
    | _ => []) ++ oidsM obs ids r
/-- the objects that are not written meanwhile -/
def fzM (obs : List OB) (ids : List Nat) (as : List AV) : List Nat := idsML obs ids as ++ oidsM obs ids ids
def nodupB : List Nat → Bool
  | [] => true
  | a :: r => !r.contains a && nodupB r
def mutOk (obs : List OB) (ids : List Nat) (as : List AV) : Bool := nodupB ids && (ids.all (fun i => Nat.blt i obs.length) && (fzM obs ids as).all fun i => !ids.contains i)

mutual
/-- the objects' numbers changed -/
def AV.mp (ρ : Nat → Nat) : AV → AV
  | .lp i o => .lp (ρ i) o
  | .rp i sz k j => .rp (ρ i) sz k j
  | .own i => .own (ρ i)
  | .ov i sz lo n => .ov (ρ i) sz lo n
  | .agg cs => .agg (AV.mpL ρ cs)
  | .tup cs => .tup (AV.mpL ρ cs)
  | .fn f cs => .fn f (AV.mpL ρ cs)
  | .gd b a => .gd b (AV.mp ρ a)
  | .top => .top
  | .c l => .c l
  | .xp k f => .xp k f
  | .cp sz n f => .cp sz n f
  | .gh i => .gh (ρ i)
  | .av n f => .av n f
  | .gt g cs => .gt g cs
  | .sb i n => .sb (ρ i) n
  | .gr i k m => .gr (ρ i) k m
  | .gp i k j => .gp (ρ i) k j
def AV.mpL (ρ : Nat → Nat) : List AV → List AV
  | [] => []
  | a :: r => AV.mp ρ a :: AV.mpL ρ r
end
def OB.mp (ρ : Nat → Nat) : OB → OB
  | .box cs => .box (AV.mpL ρ cs)
  | o => o
def setAll : List OB → List Nat → List OB → List OB
  | base, i :: is, o :: os => setAll (base.set i o) is os
  | base, _, _ => base
def rhoM (ids : List Nat) (L : Nat) (k : Nat) : Nat := match ids[k]? with
  | some i => i
  | none => k - ids.length + L

/-- the state behind a call that was handed objects -/
def retM (S : AS) (ids : List Nat) (as : List AV) (obs' : List OB) (r : AV) (dst : Option Tmp) : AS :=
  AS.put { fr := S.fr, obs := setAll (if (r.scal && obs'.all OB.scal) then S.obs else killL S.obs (fzM S.obs ids as)) ids ((obs'.take ids.length).map (OB.mp (rhoM ids S.obs.length))) ++ (obs'.drop ids.length).map (OB.mp (rhoM ids S.obs.length)) } dst (r.mp (rhoM ids S.obs.length))

/-- own rows looked at as slices that nobody writes any more -/
def frzA (obs : List OB) (ids : List Nat) : AV → AV
  | .own i => match ids.contains i with
    | true => frz obs (.own i)
    | false => .own i
  | .ov i sz lo n => match ids.contains i with
    | true => frz obs (.ov i sz lo n)
    | false => .ov i sz lo n
  | .lp i off => match (idsOf obs (.lp i off)).all fun j => ids.contains j with
    | true => frz obs (.lp i off)
    | false => .lp i off
  | a => a
def OB.fz (obs : List OB) (ids : List Nat) : OB → OB
  | .box cs => .box (cs.map (frzA obs ids))
  | o => o
def frzFr (obs : List OB) (ids : List Nat) : List (Nat × AV) → List (Nat × AV)
  | [] => []
  | (t, a) :: r => (t, frzA obs ids a) :: frzFr obs ids r
def frzS (S : AS) (ids : List Nat) : AS := ⟨frzFr S.obs ids S.fr, (killL S.obs ids).map (OB.fz S.obs ids)⟩

section
variable {σ : Asg} {I : Nat → Prop} {w : World} {B : Nat → Prop} {obs : List OB}
theorem frzA_den (h : Store σ I w B obs) (ids : List Nat) {a : AV} {u : Value} (hd : Den σ I w a u) : Den σ (frozenI σ I obs ids) w (frzA obs ids a) u := by
  have hI : ∀ b, I b → frozenI σ I obs ids b := fun _ hb => .inl hb
  have hm := hd.mono (Asg.le_refl σ) (Keeps.refl I w) hI
  unfold frzA
  split
  · rename_i i
    split
    · rename_i hc
      exact frz_sound σ h hI (fun j hj o b ho hl hb => .inr ⟨j, by simp [idsOf] at hj; subst hj; simpa using hc, o, ho, hl, hb⟩) hd
    · exact hm
  · rename_i i sz lo n
    split
    · rename_i hc
      exact frz_sound σ h hI (fun j hj o b ho hl hb => .inr ⟨j, by simp [idsOf] at hj; subst hj; simpa using hc, o, ho, hl, hb⟩) hd
    · exact hm
  · rename_i i off
    split
    · rename_i hc
      exact frz_sound σ h hI (fun j hj o b ho hl hb => .inr ⟨j, by simpa using List.all_eq_true.1 hc j hj, o, ho, hl, hb⟩) hd
    · exact hm
  · exact hm
theorem frzA_denL (h : Store σ I w B obs) (ids : List Nat) : ∀ {as : List AV} {us : List Value}, DenL σ I w as us → DenL σ (frozenI σ I obs ids) w (as.map (frzA obs ids)) us
  | [], us, hd => by simpa only [List.map_nil, DenL] using hd
  | a :: as, us, hd => by
    simp only [List.map_cons, DenL] at hd ⊢
    obtain ⟨u, us', e, h1, h2⟩ := hd
    exact ⟨u, us', e, frzA_den h ids h1, frzA_denL h ids h2⟩
theorem fz_live (ids : List Nat) (o : OB) : (OB.fz obs ids o).live = o.live := by cases o <;> rfl
theorem killL_sub {ids : List Nat} {i : Nat} {o : OB} (h : (killL obs ids)[i]? = some o) : o = .dead ∨ obs[i]? = some o := by
  rw [killL_get] at h
  split at h
  · simp only [Option.map_eq_some_iff] at h
    obtain ⟨_, _, h⟩ := h
    exact .inl h.symm
  · exact .inr h
theorem Store.frz (h : Store σ I w B obs) (ids : List Nat) : Store σ (frozenI σ I obs ids) w B ((killL obs ids).map (OB.fz obs ids)) := by
  have hk := h.kill ids
  have at_ : ∀ (i : Nat) o', ((killL obs ids).map (OB.fz obs ids))[i]? = some o' → ∃ o, (killL obs ids)[i]? = some o ∧ o' = OB.fz obs ids o := fun i o' e => by
    simp only [List.getElem?_map, Option.map_eq_some_iff] at e
    obtain ⟨o, e1, e2⟩ := e
    exact ⟨o, e1, e2.symm⟩
  refine ⟨by rw [List.length_map]; exact hk.cnt, hk.imm, fun i o' e => ?_, fun i o' b e hl hb => ?_, fun i j oi oj b ei ej hi hj bi bj => ?_⟩
  · obtain ⟨o, e1, rfl⟩ := at_ i o' e
    have hr := hk.obj i o e1
    cases o with
    | box cs =>
      rcases killL_sub e1 with hd | e2
      · cases hd
      · obtain ⟨b, us, ty, h1, h2, h3, h4⟩ := h.obj i _ e2
        exact ⟨b, us, ty, h1, h2, frzA_denL h ids h3, h4⟩
    | dead => exact hr
    | row => exact hr
    | arr => exact hr
    | keys => exact hr
    | bld => exact hr
    | grid => exact hr
  · obtain ⟨o, e1, rfl⟩ := at_ i o' e
    rw [fz_live] at hl
    exact hk.freshH i o b e1 hl hb
  · obtain ⟨o1, e1, rfl⟩ := at_ i oi ei
    obtain ⟨o2, e2, rfl⟩ := at_ j oj ej
    rw [fz_live] at hi hj
    exact hk.injH i j o1 o2 b e1 e2 hi hj bi bj
end
theorem frzFr_get (obs : List OB) (ids : List Nat) : ∀ (fr : List (Nat × AV)) (t : Nat), fget (frzFr obs ids fr) t = frzA obs ids (fget fr t)
  | [], t => rfl
  | (t', a) :: r, t => by
    simp only [frzFr, fget]
    by_cases h : t' = t
    · rw [if_pos h, if_pos h]
    · rw [if_neg h, if_neg h, frzFr_get obs ids r t]
theorem Rel.frz {w0 : Env} {w : World} {I0 I : Nat → Prop} {S : AS} {σ : Asg} {tm : Array Value} (h : Rel w0 I0 S σ I tm w) (ids : List Nat) : Rel w0 I0 (frzS S ids) σ (frozenI σ I S.obs ids) tm w := by
  have hk := h.kill ids
  exact ⟨h.same0, h.st.frz ids, fun t => by
    show Den σ (frozenI σ I S.obs ids) w (fget (frzFr S.obs ids S.fr) t) _
    rw [frzFr_get]
    exact frzA_den h.st ids (h.fr t), hk.i1, hk.i2, h.sz⟩

/-- a contract where the table stands -/
def FnT (P : Program) (g : Nat) (cs : Array Value) (f : FuncId) (args : List AV) (K : List OB → AV → Prop) : Prop :=
  Callable P f ∧ ∀ (w : World) (I : Nat → Prop) (vs : List Value), (∀ b, I b → b < w.heap.size) → Den Asg.zero I w (.gt g cs) undef → DenL Asg.zero I w args vs → Calls P f vs.toArray w (FnPost w I K)
theorem FnT.mono {P : Program} {g : Nat} {cs : Array Value} {f : FuncId} {args : List AV} {K K' : List OB → AV → Prop} (h : FnT P g cs f args K) (hk : ∀ obs r, K obs r → K' obs r) : FnT P g cs f args K' :=
  ⟨h.1, fun w I vs hI ht hd => (h.2 w I vs hI ht hd).mono fun _ _ ⟨u, σ, I', obs, r, h1, h2, h3⟩ => ⟨u, σ, I', obs, r, h1, hk _ _ h2, h3⟩⟩

/-- a contract where two tables stand -/
def FnT2 (P : Program) (g : Nat) (cs : Array Value) (g2 : Nat) (cs2 : Array Value) (f : FuncId) (args : List AV) (K : List OB → AV → Prop) : Prop :=
  Callable P f ∧ ∀ (w : World) (I : Nat → Prop) (vs : List Value), (∀ b, I b → b < w.heap.size) → Den Asg.zero I w (.gt g cs) undef → Den Asg.zero I w (.gt g2 cs2) undef → DenL Asg.zero I w args vs → Calls P f vs.toArray w (FnPost w I K)
theorem FnT2.mono {P : Program} {g : Nat} {cs : Array Value} {g2 : Nat} {cs2 : Array Value} {f : FuncId} {args : List AV} {K K' : List OB → AV → Prop} (h : FnT2 P g cs g2 cs2 f args K) (hk : ∀ obs r, K obs r → K' obs r) : FnT2 P g cs g2 cs2 f args K' :=
  ⟨h.1, fun w I vs hI ht ht2 hd => (h.2 w I vs hI ht ht2 hd).mono fun _ _ ⟨u, σ, I', obs, r, h1, h2, h3⟩ => ⟨u, σ, I', obs, r, h1, hk _ _ h2, h3⟩⟩

/-- a call of a function that is not in the table: its contract is asked -/
inductive CallG (P : Program) (f : FuncId) (args : List AV) (Kr : List OB → AV → Prop) (S : AS) (as : List AV) (dst : Option Tmp) (K : AS → Prop) : Prop where
  | mk (fn : Fn P f args Kr) : CallG P f args Kr S as dst K
  | tb (t : Nat) {g : Nat} {cs : Array Value} (ht : fget S.fr t = .gt g cs) (fn : FnT P g cs f args Kr) : CallG P f args Kr S as dst K
  | tb2 (t t2 : Nat) {g : Nat} {cs : Array Value} {g2 : Nat} {cs2 : Array Value} (ht : fget S.fr t = .gt g cs) (ht2 : fget S.fr t2 = .gt g2 cs2) (fn : FnT2 P g cs g2 cs2 f args Kr) : CallG P f args Kr S as dst K
  | wr (ids : List Nat) (hok : mutOk S.obs ids as = true) (fn : FnM P f (objsM S.obs ids ids) (argML S.obs ids as) fun obs' r => forceS (retM S ids as obs' r dst) K) : CallG P f args Kr S as dst K
  | pre (iz : List Nat) (fn : Fn P f (frzL (frzS S iz).obs (as.map (frzA S.obs iz))) fun obs' r => forceS (retS (frzS S iz) (idsL (frzS S iz).obs (as.map (frzA S.obs iz))) obs' r dst) K) : CallG P f args Kr S as dst K
  | preW (iz ids : List Nat) (hok : mutOk (frzS S iz).obs ids (as.map (frzA S.obs iz)) = true) (fn : FnM P f (objsM (frzS S iz).obs ids ids) (argML (frzS S iz).obs ids (as.map (frzA S.obs iz))) fun obs' r => forceS (retM (frzS S iz) ids (as.map (frzA S.obs iz)) obs' r dst) K) : CallG P f args Kr S as dst K

def callE (P : Program) (S : AS) (f : FuncId) (as : List AV) (dst : Option Tmp) (K : AS → Prop) : Prop :=
  forceAL (frzL S.obs as) fun as' => CallG P f as' (fun obs' r => forceS (retS S (idsL S.obs as) obs' r dst) K) S as dst K

/-- a quiet call: its contract is asked; it changes nothing that was there -/
inductive CallC (P : Program) (f : FuncId) (args : List AV) (Kr : List OB → AV → Prop) (S : AS) (as : List AV) (dst : Option Tmp) (K : AS → Prop) : Prop where
  | mk (fn : Fn P f args Kr) : CallC P f args Kr S as dst K
  | tb (t : Nat) {g : Nat} {cs : Array Value} (ht : fget S.fr t = .gt g cs) (fn : FnT P g cs f args Kr) : CallC P f args Kr S as dst K
  | pre (iz : List Nat) (fn : Fn P f (frzL (frzS S iz).obs (as.map (frzA S.obs iz))) fun obs' r => forceS (retS (frzS S iz) (idsL (frzS S iz).obs (as.map (frzA S.obs iz))) obs' r dst) K) : CallC P f args Kr S as dst K
def callC (P : Program) (S : AS) (f : FuncId) (as : List AV) (dst : Option Tmp) (K : AS → Prop) : Prop :=
  forceAL (frzL S.obs as) fun as' => CallC P f as' (fun obs' r => forceS (retS S (idsL S.obs as) obs' r dst) K) S as dst K

theorem fget_mono {σ τ : Asg} {I I' : Nat → Prop} {w w' : World} {fr : List (Nat × AV)} {v : Nat → Value} (hs : σ.le τ) (hk : Keeps I w w') (hI : ∀ b, I b → I' b) (h : ∀ t, Den σ I w (fget fr t) (v t)) :
    ∀ t, Den τ I' w' (fget fr t) (v t) := fun t => (h t).mono hs hk hI

theorem run_callFunc {P : Program} {f : FuncId} (h : Callable P f) (args : Array Value) (w : World) : (callFunc f args).run P w = .ok (.enter f args) w := by
  obtain ⟨fn, h1, h2, h3⟩ := h
  unfold callFunc
  simp only [Sem.run_bind, run_program, Result.andThen_ok, h1, h2, h3, Bool.false_eq_true, if_false, Sem.run_pure]

theorem callF_sound0 {P : Program} {w0 : Env} {w : World} {I0 I : Nat → Prop} {S : AS} {σ : Asg} {tm : Array Value} {f : FuncId} {as : List AV} {us : List Value} {dst : Option Tmp} {K : AS → Prop}
    (hrel : Rel w0 I0 S σ I tm w) (hd : DenL σ I w as us) (hdst : ∀ t, dst = some t → t < tm.size) (h1 : Callable P f) (h : ∀ vs, DenL Asg.zero (frozenI σ I S.obs (idsL S.obs as)) w (frzL S.obs as) vs → Calls P f vs.toArray w (FnPost w (frozenI σ I S.obs (idsL S.obs as)) fun obs' r => retS S (idsL S.obs as) obs' r dst |> K)) :
    Callable P f ∧ Calls P f us.toArray w fun e w' => ∃ u, e = .returned u ∧ Same w w' ∧ ∃ S' σ' I', K S' ∧ Rel w0 I0 S' σ' I' (putT tm dst u) w' := by
  refine ⟨h1, ?_⟩
  have hkill := hrel.kill (idsL S.obs as)
  have hJ : ∀ b, I b → frozenI σ I S.obs (idsL S.obs as) b := fun _ hb => Or.inl hb
  have hfrz : DenL Asg.zero (frozenI σ I S.obs (idsL S.obs as)) w (frzL S.obs as) us :=
    frzL_sound Asg.zero hrel.st hJ (fun i hi o b ho hl hb => .inr ⟨i, hi, o, ho, hl, hb⟩) hd
  refine (h us hfrz).mono ?_
  rintro e w' ⟨u, τ, I', obs', r, rfl, hK, hw, hI1, hI2, hst, hden⟩
  refine ⟨u, rfl, hw, retS S (idsL S.obs as) obs' r dst, ?_⟩
  have hcnt : σ.cnt = S.obs.length := hrel.st.cnt
  by_cases hsc : (r.scal && obs'.all OB.scal) = true
  · have hsc' := hsc
    simp only [Bool.and_eq_true] at hsc'
    have hrel' := hrel.same hw
    let J : Nat → Prop := fun b => I b ∨ (I' b ∧ w.heap.size ≤ b)
    have hJlt : ∀ b, J b → b < w'.heap.size := fun b hb => by
      rcases hb with hb | hb
      · exact hrel'.st.imm b hb
      · exact hst.imm b hb.1
    have h1 : Store σ J w' w0.F S.obs := hrel'.st.moreI (fun b hb => .inl hb) hJlt fun i o b e hl hb => by
      have := hrel.st.freshH i o b e hl hb
      rintro (hI | ⟨_, h2⟩)
      · exact this.2.1 hI
      · omega
    have h2 : Store τ J w' (fun b => w.heap.size ≤ b) obs' := by
      refine ⟨hst.cnt, hJlt, fun i o e => scal_obj (List.all_eq_true.1 hsc'.2 o (List.mem_of_getElem? e)) (hst.obj i o e), fun i o b e hl hb => ?_, hst.injH⟩
      have := hst.freshH i o b e hl hb
      have h9 : w.heap.size ≤ b := this.1
      refine ⟨this.1, ?_, this.2.2⟩
      rintro (hI | ⟨hI, _⟩)
      · have := hrel.st.imm b hI; omega
      · exact this.2.1 hI
    refine ⟨σ.cat τ, J, hK, ?_⟩
    unfold retS
    rw [if_pos hsc]
    refine Rel.put (S := { fr := S.fr, obs := S.obs ++ obs'.map (OB.sh S.obs.length) }) ?_ hdst ?_
    · refine ⟨hrel'.same0, ?_, fget_mono (Asg.le_cat σ τ) (Keeps.refl I w') (fun b hb => .inl hb) hrel'.fr, fun b hb => .inl (hrel.i1 b hb), fun b hb => ?_, hrel.sz⟩
      · rw [← hcnt]
        exact h1.cat h2 hrel.hB fun i o b e hl hb => Nat.not_le.2 (hrel.st.freshH i o b e hl hb).2.2
      · rcases hb with hb | ⟨_, hb⟩
        · exact hrel.i2 b hb
        · exact .inr (hrel.hB b hb)
    · rw [← hcnt]
      exact sh_den (scal_den hsc'.1 hden)
  · have hrel' := hkill.same hw
    have h1 : Store σ I' w' w0.F (killL S.obs (idsL S.obs as)) := hrel'.st.moreI hI1 hst.imm fun i o b e hl hb => by
      have := hkill.st.freshH i o b e hl hb
      intro hI
      rcases hI2 b hI with h2 | h2
      · exact this.2.1 h2
      · omega
    refine ⟨σ.cat τ, I', hK, ?_⟩
    unfold retS
    rw [if_neg hsc]
    refine Rel.put (S := { fr := S.fr, obs := killL S.obs (idsL S.obs as) ++ obs'.map (OB.sh S.obs.length) }) ?_ hdst ?_
    · refine ⟨hrel'.same0, ?_, fget_mono (Asg.le_cat σ τ) (Keeps.refl _ w') hI1 hrel'.fr, fun b hb => hI1 b (.inl (hrel.i1 b hb)), fun b hb => ?_, hrel.sz⟩
      · rw [← hcnt]
        exact h1.cat hst hrel.hB fun i o b e hl hb => Nat.not_le.2 (hkill.st.freshH i o b e hl hb).2.2
      · rcases hI2 b hb with h2 | h2
        · exact hkill.i2 b h2
        · exact .inr (hrel.hB b h2)
    · rw [← hcnt]
      exact sh_den hden

theorem callF_sound {P : Program} {w0 : Env} {w : World} {I0 I : Nat → Prop} {S : AS} {σ : Asg} {tm : Array Value} {f : FuncId} {as : List AV} {us : List Value} {dst : Option Tmp} {K : AS → Prop}
    (hrel : Rel w0 I0 S σ I tm w) (hd : DenL σ I w as us) (hdst : ∀ t, dst = some t → t < tm.size) (h : Fn P f (frzL S.obs as) fun obs' r => forceS (retS S (idsL S.obs as) obs' r dst) K) :
    Callable P f ∧ Calls P f us.toArray w fun e w' => ∃ u, e = .returned u ∧ Same w w' ∧ ∃ S' σ' I', K S' ∧ Rel w0 I0 S' σ' I' (putT tm dst u) w' := by
  have h := h.mono (fun _ _ hk => by rwa [forceS_eq] at hk)
  exact callF_sound0 hrel hd hdst h.1 fun vs hv => h.2 w _ vs (hrel.kill (idsL S.obs as)).st.imm hv
theorem callT_sound {P : Program} {w0 : Env} {w : World} {I0 I : Nat → Prop} {S : AS} {σ : Asg} {tm : Array Value} {f : FuncId} {as : List AV} {us : List Value} {dst : Option Tmp} {K : AS → Prop} {t g : Nat} {cs : Array Value} (ht : fget S.fr t = .gt g cs)
    (hrel : Rel w0 I0 S σ I tm w) (hd : DenL σ I w as us) (hdst : ∀ t, dst = some t → t < tm.size) (h : FnT P g cs f (frzL S.obs as) fun obs' r => forceS (retS S (idsL S.obs as) obs' r dst) K) :
    Callable P f ∧ Calls P f us.toArray w fun e w' => ∃ u, e = .returned u ∧ Same w w' ∧ ∃ S' σ' I', K S' ∧ Rel w0 I0 S' σ' I' (putT tm dst u) w' := by
  have h := h.mono (fun _ _ hk => by rwa [forceS_eq] at hk)
  have hf := hrel.fr t
  rw [ht] at hf
  simp only [Den] at hf
  refine callF_sound0 hrel hd hdst h.1 fun vs hv => h.2 w _ vs (hrel.kill (idsL S.obs as)).st.imm ?_ hv
  simp only [Den]
  exact ⟨Or.inl hf.1, hf.2⟩
theorem callT2_sound {P : Program} {w0 : Env} {w : World} {I0 I : Nat → Prop} {S : AS} {σ : Asg} {tm : Array Value} {f : FuncId} {as : List AV} {us : List Value} {dst : Option Tmp} {K : AS → Prop} {t g : Nat} {cs : Array Value} {t2 g2 : Nat} {cs2 : Array Value} (ht : fget S.fr t = .gt g cs) (ht2 : fget S.fr t2 = .gt g2 cs2)
    (hrel : Rel w0 I0 S σ I tm w) (hd : DenL σ I w as us) (hdst : ∀ t, dst = some t → t < tm.size) (h : FnT2 P g cs g2 cs2 f (frzL S.obs as) fun obs' r => forceS (retS S (idsL S.obs as) obs' r dst) K) :
    Callable P f ∧ Calls P f us.toArray w fun e w' => ∃ u, e = .returned u ∧ Same w w' ∧ ∃ S' σ' I', K S' ∧ Rel w0 I0 S' σ' I' (putT tm dst u) w' := by
  have h := h.mono (fun _ _ hk => by rwa [forceS_eq] at hk)
  have hf := hrel.fr t
  rw [ht] at hf
  simp only [Den] at hf
  have hf2 := hrel.fr t2
  rw [ht2] at hf2
  simp only [Den] at hf2
  refine callF_sound0 hrel hd hdst h.1 fun vs hv => h.2 w _ vs (hrel.kill (idsL S.obs as)).st.imm ?_ ?_ hv
  · simp only [Den]
    exact ⟨Or.inl hf.1, hf.2⟩
  · simp only [Den]
    exact ⟨Or.inl hf2.1, hf2.2⟩
end Go.Proofs.YtjfnhehjhicnoaaDoor
