/-
  Forgetting, loops, functions.
-/
import Derived.Test.YtjfnhehjhicnoaaDoorVmJ
namespace Go.Proofs.YtjfnhehjhicnoaaDoor
open Go.RowKit

mutual
def AV.ren (π : List Nat) : AV → AV
  | .lp i o => .lp ((π[i]?).getD i) o
  | .rp i sz k j => .rp ((π[i]?).getD i) sz k j
  | .own i => .own ((π[i]?).getD i)
  | .agg cs => .agg (AV.renL π cs)
  | .tup cs => .tup (AV.renL π cs)
  | .fn f cs => .fn f (AV.renL π cs)
  | .gd b a => .gd b (AV.ren π a)
  | .top => .top
  | .c l => .c l
  | .xp k f => .xp k f
  | .ov i sz lo n => .ov ((π[i]?).getD i) sz lo n
  | .cp sz n f => .cp sz n f
  | .gh i => .gh ((π[i]?).getD i)
  | .av n f => .av n f
  | .gt g cs => .gt g cs
  | .sb i n => .sb ((π[i]?).getD i) n
  | .gr i k m => .gr ((π[i]?).getD i) k m
  | .gp i k j => .gp ((π[i]?).getD i) k j
def AV.renL (π : List Nat) : List AV → List AV
  | [] => []
  | a :: r => AV.ren π a :: AV.renL π r
end

mutual
def AV.idsLt (n : Nat) : AV → Bool
  | .lp i _ => decide (i < n)
  | .sb i _ => decide (i < n)
  | .gr i _ _ => decide (i < n)
  | .gp i _ _ => decide (i < n)
  | .rp i _ _ _ => decide (i < n)
  | .own i => decide (i < n)
  | .ov i _ _ _ => decide (i < n)
  | .gh i => decide (i < n)
  | .agg cs => AV.idsLtL n cs
  | .tup cs => AV.idsLtL n cs
  | .fn _ cs => AV.idsLtL n cs
  | .gd _ a => AV.idsLt n a
  | _ => true
def AV.idsLtL (n : Nat) : List AV → Bool
  | [] => true
  | a :: r => AV.idsLt n a && AV.idsLtL n r
end

def SubFr (π : List Nat) (fr : List (Nat × AV)) (n : Nat) : List (Nat × AV) → Prop
  | [] => True
  | (t, a) :: r => fget fr t = AV.ren π a ∧ AV.idsLt n a = true ∧ SubFr π fr n r

def OBle (π : List Nat) (n : Nat) : OB → OB → Prop
  | _, .dead => True
  | .box cs, .box cs' => cs = AV.renL π cs' ∧ AV.idsLtL n cs' = true
  | .arr sz k _ f, .arr sz' k' sc' f' => sz = sz' ∧ k = k' ∧ (sc' = true → ∀ a b, (f' a b).scal = true) ∧ ∀ a, a < k → ∀ b, b < sz → f a b = f' a b
  | .row e sz k _ f, .row e' sz' k' sc' f' => e = e' ∧ sz = sz' ∧ k = k' ∧ (sc' = true → ∀ a b, (f' a b).scal = true) ∧ ∀ a, a < k → ∀ b, b < sz → f a b = f' a b
  | .keys ks, .keys ks' => ks = ks'
  | .bld T e b l, .bld T' e' b' l' => T = T' ∧ e = e' ∧ b = b' ∧ l = l'
  | .grid e k m f, .grid e' k' m' f' => e = e' ∧ k = k' ∧ m = m' ∧ ∀ a, a < k → ∀ b, b < m → f a b = f' a b
  | _, _ => False

def SubOb (π : List Nat) (n : Nat) (obs : List OB) : List Nat → List OB → Prop
  | [], [] => True
  | p :: ps, o' :: r => (match obs[p]? with | some o => OBle π n o o' | none => False) ∧ SubOb π n obs ps r
  | _, _ => False

/-- S may be looked at as S' -/
def Sub (π : List Nat) (S S' : AS) : Prop := nodupB π = true ∧ SubOb π S'.obs.length S.obs π S'.obs ∧ SubFr π S.fr S'.obs.length S'.fr

section
variable {w0 : Env} {w : World} {I0 I : Nat → Prop} {S S' : AS} {σ σ' : Asg} {tm : Array Value} {π : List Nat} {n : Nat}

def Asg.ren (σ : Asg) (π : List Nat) (n : Nat) : Asg := ⟨n, fun i => σ.blk ((π[i]?).getD i), fun i => σ.hdr ((π[i]?).getD i), fun i => σ.sub ((π[i]?).getD i)⟩

mutual
theorem ren_den : ∀ {a : AV} {u : Value}, a.idsLt n = true → Den σ I w (a.ren π) u → Den (σ.ren π n) I w a u
  | .lp i o, u, hi, h => by
    simp only [AV.ren, Den, AV.idsLt, decide_eq_true_eq] at h hi ⊢
    exact ⟨hi, h.2⟩
  | .rp i sz k j, u, hi, h => by
    simp only [AV.ren, Den, AV.idsLt, decide_eq_true_eq] at h hi ⊢
    exact ⟨hi, h.2⟩
  | .own i, u, hi, h => by
    simp only [AV.ren, Den, AV.idsLt, decide_eq_true_eq] at h hi ⊢
    exact ⟨hi, h.2⟩
  | .agg cs, u, hi, h => by
    simp only [AV.ren, Den, AV.idsLt] at h hi ⊢
    obtain ⟨us, e, h1, h2⟩ := h
    exact ⟨us, e, renL_den hi h1, h2⟩
  | .tup cs, u, hi, h => by
    simp only [AV.ren, Den, AV.idsLt] at h hi ⊢
    obtain ⟨us, e, h1⟩ := h
    exact ⟨us, e, renL_den hi h1⟩
  | .fn f cs, u, hi, h => by
    simp only [AV.ren, Den, AV.idsLt] at h hi ⊢
    obtain ⟨us, e, h1⟩ := h
    exact ⟨us, e, renL_den hi h1⟩
  | .gd b a, u, hi, h => by
    simp only [AV.ren, Den, AV.idsLt] at h hi ⊢
    exact ⟨fun hb => ren_den hi (h.1 hb), h.2⟩
  | .top, u, hi, h => by simp only [Den]
  | .c l, u, hi, h => by simpa only [AV.ren, Den] using h
  | .xp k f, u, hi, h => by simpa only [AV.ren, Den] using h
  | .ov i sz lo m, u, hi, h => by
    simp only [AV.ren, Den, AV.idsLt, decide_eq_true_eq] at h hi ⊢
    exact ⟨hi, h.2⟩
  | .cp sz m f, u, hi, h => by simpa only [AV.ren, Den] using h
  | .av m f, u, hi, h => by simpa only [AV.ren, Den] using h
  | .gt g cs, u, hi, h => by simpa only [AV.ren, Den] using h
  | .sb i o, u, hi, h => by
    simp only [AV.ren, Den, AV.idsLt, decide_eq_true_eq] at h hi ⊢
    exact ⟨hi, h.2⟩
  | .gr i k m, u, hi, h => by
    simp only [AV.ren, Den, AV.idsLt, decide_eq_true_eq] at h hi ⊢
    exact ⟨hi, h.2⟩
  | .gp i k m, u, hi, h => by
    simp only [AV.ren, Den, AV.idsLt, decide_eq_true_eq] at h hi ⊢
    exact ⟨hi, h.2⟩
  | .gh i, u, hi, h => by
    simp only [AV.ren, Den, AV.idsLt, decide_eq_true_eq] at h hi ⊢
    exact ⟨hi, h.2⟩
theorem renL_den : ∀ {as : List AV} {us : List Value}, AV.idsLtL n as = true → DenL σ I w (AV.renL π as) us → DenL (σ.ren π n) I w as us
  | [], us, _, h => by simpa only [AV.renL, DenL] using h
  | a :: as, us, hi, h => by
    simp only [AV.renL, DenL, AV.idsLtL, Bool.and_eq_true] at h hi ⊢
    obtain ⟨u, us', e, h1, h2⟩ := h
    exact ⟨u, us', e, ren_den hi.1 h1, renL_den hi.2 h2⟩
end

theorem SubFr.get {fr fr' : List (Nat × AV)} (h : SubFr π fr n fr') : ∀ t, fget fr' t = .top ∨ (fget fr t = AV.ren π (fget fr' t) ∧ AV.idsLt n (fget fr' t) = true) := by
  induction fr' with
  | nil => exact fun t => .inl rfl
  | cons p r ih =>
    obtain ⟨t', a⟩ := p
    simp only [SubFr] at h
    intro t
    simp only [fget]
    by_cases ht : t' = t
    · subst ht; rw [if_pos rfl]; exact .inr ⟨h.1, h.2.1⟩
    · rw [if_neg ht]; exact ih h.2.2 t

theorem SubOb.get {obs : List OB} : ∀ {ps : List Nat} {obs' : List OB}, SubOb π n obs ps obs' → ps.length = obs'.length ∧ ∀ (i : Nat) o', obs'[i]? = some o' → ∃ p o, ps[i]? = some p ∧ obs[p]? = some o ∧ OBle π n o o'
  | [], [], _ => ⟨rfl, fun i o' e => by simp at e⟩
  | p :: ps, o' :: r, h => by
    simp only [SubOb] at h
    obtain ⟨g1, g2⟩ := SubOb.get h.2
    refine ⟨by simp [g1], fun i o'' e => ?_⟩
    cases i with
    | zero =>
      simp at e; subst e
      have h1 := h.1
      split at h1
      · rename_i o ho; exact ⟨p, o, rfl, ho, h1⟩
      · exact h1.elim
    | succ i => simpa using g2 i o'' (by simpa using e)
  | [], _ :: _, h => by simp [SubOb] at h
  | _ :: _, [], h => by simp [SubOb] at h

theorem Store.ren {B : Nat → Prop} {obs obs' : List OB} (h : Store σ I w B obs) (hn : nodupB π = true) (ho : SubOb π obs'.length obs π obs') : Store (σ.ren π obs'.length) I w B obs' := by
  obtain ⟨hl, hget⟩ := ho.get
  have live : ∀ {o o' : OB}, OBle π obs'.length o o' → o'.live = true → o.live = true := fun {o o'} hle hl => by
    cases o' with
    | dead => cases hl
    | box => cases o <;> first | rfl | (simp [OBle] at hle)
    | row => cases o <;> first | rfl | (simp [OBle] at hle)
    | arr => cases o <;> first | rfl | (simp [OBle] at hle)
    | keys => cases o <;> first | rfl | (simp [OBle] at hle)
    | bld => cases o <;> first | rfl | (simp [OBle] at hle)
    | grid => cases o <;> first | rfl | (simp [OBle] at hle)
  have blk : ∀ {i p : Nat}, π[i]? = some p → (σ.ren π obs'.length).blk i = σ.blk p := fun {i p} e => by simp [Asg.ren, e]
  have hdr : ∀ {i p : Nat}, π[i]? = some p → (σ.ren π obs'.length).hdr i = σ.hdr p := fun {i p} e => by simp [Asg.ren, e]
  have sub : ∀ {i p : Nat}, π[i]? = some p → (σ.ren π obs'.length).sub i = σ.sub p := fun {i p} e => by simp [Asg.ren, e]
  have has : ∀ {i p b : Nat}, π[i]? = some p → ((σ.ren π obs'.length).has i b ↔ σ.has p b) := fun {i p b} e => by unfold Asg.has; rw [blk e, sub e]
  refine ⟨rfl, h.imm, fun i o' e => ?_, fun i o' b e hlv hb => ?_, fun i j oi oj b ei ej li lj bi bj => ?_⟩
  · obtain ⟨p, o, hp, hop, hle⟩ := hget i o' e
    have hobj := h.obj p o hop
    cases o' with
    | dead => trivial
    | box cs' =>
      cases o with
      | box cs =>
        simp only [OBle] at hle
        obtain ⟨rfl, hid⟩ := hle
        obtain ⟨b, us, ty, h1, h2, h3, h4⟩ := hobj
        exact ⟨b, us, ty, (blk hp).trans h1, h2, renL_den hid h3, h4⟩
      | dead => simp [OBle] at hle
      | row => simp [OBle] at hle
      | arr => simp [OBle] at hle
      | keys => simp [OBle] at hle
      | bld => simp [OBle] at hle
      | grid => simp [OBle] at hle
    | row e' sz' k' sc' f' =>
      cases o with
      | row e0 sz k sc f =>
        simp only [OBle] at hle
        obtain ⟨rfl, rfl, rfl, hsc, hf⟩ := hle
        refine ⟨?_, hsc⟩
        rcases (hobj.1.mono (hdr hp) (blk hp) (Keeps.refl I w) (fun _ h => h) (fun _ _ => rfl) : RowRel (σ.ren π obs'.length) I w i _ _ _ f) with h0 | ⟨h0, xs, h1, h2, h3⟩
        · exact .inl h0
        · refine .inr ⟨h0, xs, h1, h2, fun a ha b hb => ?_⟩
          obtain ⟨c, q1, q2⟩ := h3 a ha b hb
          exact ⟨c, q1, by rw [← hf a ha b hb]; exact q2⟩
      | dead => simp [OBle] at hle
      | box => simp [OBle] at hle
      | arr => simp [OBle] at hle
      | keys => simp [OBle] at hle
      | bld => simp [OBle] at hle
      | grid => simp [OBle] at hle
    | arr sz' k' sc' f' =>
      cases o with
      | arr sz k sc f =>
        simp only [OBle] at hle
        obtain ⟨rfl, rfl, hsc, hf⟩ := hle
        obtain ⟨⟨b, xs, ty, h1, h2, h3, h4, h5⟩, _⟩ := hobj
        exact ⟨⟨b, xs, ty, (blk hp).trans h1, h2, h3, h4, fun a ha b hb => by
          obtain ⟨c, q1, q2⟩ := h5 a ha b hb
          exact ⟨c, q1, by rw [← hf a ha b hb]; exact q2⟩⟩, hsc⟩
      | dead => simp [OBle] at hle
      | box => simp [OBle] at hle
      | row => simp [OBle] at hle
      | keys => simp [OBle] at hle
      | bld => simp [OBle] at hle
      | grid => simp [OBle] at hle
    | keys ks' =>
      cases o with
      | keys ks =>
        simp only [OBle] at hle
        subst hle
        obtain ⟨b, es, clock, h1, h2, h3⟩ := hobj
        exact ⟨b, es, clock, (blk hp).trans h1, (hdr hp).trans h2, h3⟩
      | dead => simp [OBle] at hle
      | box => simp [OBle] at hle
      | row => simp [OBle] at hle
      | arr => simp [OBle] at hle
      | grid => simp [OBle] at hle
      | bld => simp [OBle] at hle
    | bld T' e' b' l' =>
      cases o with
      | bld T e b l =>
        simp only [OBle] at hle
        obtain ⟨rfl, rfl, rfl, rfl⟩ := hle
        show BldRel _ _ _ _ _ _ _
        rw [blk hp, sub hp]
        exact hobj
      | dead => simp [OBle] at hle
      | box => simp [OBle] at hle
      | row => simp [OBle] at hle
      | arr => simp [OBle] at hle
      | keys => simp [OBle] at hle
      | grid => simp [OBle] at hle
    | grid e' k' m' f' =>
      cases o with
      | grid e0 k m f =>
        simp only [OBle] at hle
        obtain ⟨rfl, rfl, rfl, hf⟩ := hle
        show GridRel _ _ _ _ _ _ _ _
        rw [hdr hp, blk hp, sub hp]
        have hg : GridRel w (σ.hdr p) (σ.blk p) (σ.sub p) e0 k m f := hobj
        refine ⟨hg.row, fun a ha => ?_, hg.size, hg.inj, hg.out⟩
        obtain ⟨b, ys, ty, r1, r2, r3, r4⟩ := hg.inn a ha
        exact ⟨b, ys, ty, r1, r2, r3, fun q hq => by rw [← hf a ha q hq]; exact r4 q hq⟩
      | dead => simp [OBle] at hle
      | box => simp [OBle] at hle
      | row => simp [OBle] at hle
      | arr => simp [OBle] at hle
      | keys => simp [OBle] at hle
      | bld => simp [OBle] at hle
  · obtain ⟨p, o, hp, hop, hle⟩ := hget i o' e
    rw [has hp] at hb
    exact h.freshH p o b hop (live hle hlv) hb
  · obtain ⟨p, o, hp, hop, hle⟩ := hget i oi ei
    obtain ⟨q, o2, hq, hoq, hle2⟩ := hget j oj ej
    rw [has hp] at bi
    rw [has hq] at bj
    have := h.injH p q o o2 b hop hoq (live hle li) (live hle2 lj) bi bj
    subst this
    exact nodupB_inj hn i j p hp hq

theorem Rel.sub (h : Rel w0 I0 S σ I tm w) (hs : Sub π S S') : Rel w0 I0 S' (σ.ren π S'.obs.length) I tm w := by
  obtain ⟨h1, h2, h3⟩ := hs
  refine ⟨h.same0, h.st.ren h1 h2, fun t => ?_, h.i1, h.i2, h.sz⟩
  rcases h3.get t with ht | ⟨ht, hid⟩
  · rw [ht]; simp only [Den]
  · have := h.fr t
    rw [ht] at this
    exact ren_den hid this

end

def kLoop (n : AS → Prop) (K : Ex → AS → Prop) : Ex → AS → Prop
  | .nm, S => n S
  | .ex i, S => K (.ex i) S
  | .rt, S => K .rt S

/-- a loop with an invariant -/
theorem sem_loop {P : Program} {T : Tab} {Γ : Gam} {N : Nat} {O : Ord} (hT : TabOk P T) (hG : GOk P Γ) (hm : P.follows .mixedOrders = true) {c : Code} (hok : codeOk (Gq Γ) N O c = true) {S : AS} {K : Ex → AS → Prop}
    {α : Type} (emb : α → AS) (Inv : α → Prop) (μ : α → Nat) (h0 : ∃ x π, Inv x ∧ Sub π S (emb x))
    (step : ∀ x, Inv x → wpx P T Γ N O c (emb x) (kLoop (fun S' => ∃ x' π, Inv x' ∧ μ x' < μ x ∧ Sub π S' (emb x')) K)) : LoopG P N c S K := by
  constructor
  intro w0 I0 σ I a w hd hN hr
  let J : Nat → Act → World → Prop := fun m a w => ∃ x, Inv x ∧ μ x = m ∧ At w0 I0 N (fun S' => S' = emb x) a w
  have hJ : ∃ m, J m a w := by
    obtain ⟨x, π, hi, hs⟩ := h0
    exact ⟨_, x, hi, rfl, hd, hN, _, _, I, rfl, hr.sub hs⟩
  intro b k cs
  have key : ∀ n a w, J n a w → ∃ e a' w', QK w0 I0 N K e a' w' ∧ Arrives P (lone (b.at a (.code c :: .inLoop c :: k)) cs w) b k cs e a' w' := by
    intro n
    induction n using Nat.strongRecOn with
    | _ n ih =>
      intro a w hj
      obtain ⟨x, hi, hx, hd', hN', S', σ', I', rfl, hr'⟩ := hj
      have hc := wpx_sound hT hG hm c (emb x) _ hok (step x hi) w0 I0 σ' I' a w hd' hN' hr'
      obtain ⟨e, a₁, w₁, hq, harr⟩ := hc b (.inLoop c :: k) cs
      cases e with
      | normal =>
        obtain ⟨hd1, hN1, S1, σ1, I1, ⟨x', π, hi', hlt, hs⟩, hr1⟩ := hq
        obtain ⟨e₂, a₂, w₂, hq₂, harr₂⟩ := ih (μ x') (hx ▸ hlt) a₁ w₁ ⟨x', hi', rfl, hd1, hN1, _, _, I1, rfl, hr1.sub hs⟩
        exact ⟨e₂, a₂, w₂, hq₂, .of_steps (Steps.trans harr (.one step_inLoop)) harr₂⟩
      | exit id => exact ⟨.exit id, a₁, w₁, hq, .pass (x := .inLoop c) rfl (fun _ _ => .inl (by simp)) harr⟩
      | goto l => exact hq.elim
      | ret => exact ⟨.ret, a₁, w₁, hq, .pass (x := .inLoop c) rfl (fun _ _ => .inl (by simp)) harr⟩
      | panic ch => exact hq.elim
      | outgrown => exact hq.elim
  obtain ⟨m, hj⟩ := hJ
  obtain ⟨e, a', w', hq, harr⟩ := key m a w hj
  exact ⟨e, a', w', hq, .of_steps (.one step_loop) harr⟩

/-- a cut: at this point only what S' says is kept -/
theorem sem_cut {P : Program} {T : Tab} {Γ : Gam} {N : Nat} {O : Ord} (hT : TabOk P T) (hG : GOk P Γ) (hm : P.follows .mixedOrders = true) {c : Code} (hok : codeOk (Gq Γ) N O c = true) {S S' : AS} {K : Ex → AS → Prop} {π : List Nat}
    (hs : Sub π S S') (h : wpx P T Γ N O c S' K) : SemC P N c S K := fun w0 I0 _ I a w hd hN hr => wpx_sound hT hG hm c S' K hok h w0 I0 _ I a w hd hN (hr.sub hs)

/-- what a function hands back -/
def resV (S : AS) : List ResultVar → Option (List AV)
  | [] => some []
  | .tmp t :: r => (resV S r).map (fget S.fr t :: ·)
  | .cell a _ :: r => match fget S.fr a with
    | .lp i 0 => match S.obs[i]? with
      | some (.box cs) => (resV S r).map (.agg cs :: ·)
      | some (.arr _ n _ f) => (resV S r).map (.av n (fun k => f k 0) :: ·)
      | _ => none
    | _ => none

def resA (S : AS) (rs : List ResultVar) : Option AV :=
  match resV S rs with
  | some [a] => some a
  | some l => some (.tup l)
  | none => none

/-- the results' cells are structs of so many cells -/
def resOk (T : Tab) (S : AS) : List ResultVar → Bool
  | [] => true
  | .tmp t :: r => Nat.blt t 1000000 && resOk T S r
  | .cell a t :: r => Nat.blt a 1000000 && (match fget S.fr a with
    | .lp i _ => match S.obs[i]?, tget T t with
      | some (.box cs), some x => x.td.agg && cs.length == x.size
      | some (.arr sz n _ _), some x => x.td.agg && (sz == 1 && n == x.size)
      | _, _ => false
    | _ => false) && resOk T S r

/-- the function's end: the result, and the objects that go with it -/
def Fin (T : Tab) (rs : List ResultVar) (K : List OB → AV → Prop) (S : AS) : Prop :=
  resOk T S rs = true ∧ match resA S rs with
  | some r => (∃ π obs' r', nodupB π = true ∧ SubOb π obs'.length S.obs π obs' ∧ r = AV.ren π r' ∧ AV.idsLt obs'.length r' = true ∧ K obs' r') ∨ K [] (frz S.obs r)
  | none => False

def FinK (T : Tab) (rs : List ResultVar) (K : List OB → AV → Prop) : Ex → AS → Prop
  | .nm, S => Fin T rs K S
  | .rt, S => Fin T rs K S
  | .ex _, _ => False

def resOne (tm : Array Value) : ResultVar → Sem Value
  | .tmp t => pure (tm.getD t undef)
  | .cell a t => do loadVar t (← asAddr (tm.getD a undef))

theorem results_eq (fn : Func) (tm : Array Value) : results fn tm = (do
    let vs ← fn.results.mapM (resOne tm)
    pure (if h : vs.size = 1 then vs[0] else .tuple vs)) := by
  unfold results
  congr 2

theorem resV_sound {P : Program} {T : Tab} (hT : TabOk P T) {w0 : Env} {w : World} {I0 I : Nat → Prop} {S : AS} {σ : Asg} {tm : Array Value} (h : Rel w0 I0 S σ I tm w) : ∀ {rs : List ResultVar} {as : List AV}, resOk T S rs = true → resV S rs = some as →
    ∃ us, (rs.mapM (resOne tm)).run P w = .ok us w ∧ DenL σ I w as us
  | [], as, _, e => by
    simp only [resV] at e; injection e with e; subst e
    exact ⟨[], rfl, by simp [DenL]⟩
  | .tmp t :: r, as, hok, e => by
    simp only [resV, Option.map_eq_some_iff] at e
    obtain ⟨l, hl, rfl⟩ := e
    simp only [resOk, Bool.and_eq_true, Nat.blt_eq] at hok
    obtain ⟨us, h1, h2⟩ := resV_sound hT h (rs := r) hok.2 hl
    refine ⟨tm.getD t undef :: us, ?_, by simp only [DenL]; exact ⟨_, _, rfl, by have := h.fr t; rwa [tv_low hok.1] at this, h2⟩⟩
    simp only [List.mapM_cons, resOne, Sem.run_bind, Sem.run_pure, Result.andThen_ok, h1]
  | .cell a t :: r, as, hok, e => by
    simp only [resV] at e
    simp only [resOk, Bool.and_eq_true, Nat.blt_eq] at hok
    have hf := h.fr a
    rw [tv_low hok.1.1] at hf
    split at e
    · rename_i i hi
      rw [hi] at hf hok
      simp only [Den] at hf
      obtain ⟨_, b, hb, hptr⟩ := hf
      split at e
      · rename_i cs hcs
        simp only [Option.map_eq_some_iff] at e
        obtain ⟨l, hl, rfl⟩ := e
        obtain ⟨us, h1, h2⟩ := resV_sound hT h (rs := r) hok.2 hl
        have hok1 := hok.1.2
        simp only [hcs] at hok1
        cases hx : tget T t with
        | none => simp [hx] at hok1
        | some x =>
          simp only [hx] at hok1
          simp only [Bool.and_eq_true, beq_iff_eq] at hok1
          obtain ⟨b', vs, ty, hb', hh, hdl, h1c⟩ := h.st.obj i _ hcs
          rw [hb] at hb'; injection hb' with hb'; subst hb'
          have hlen := hdl.len
          have hload : (loadVar t ⟨b, 0, none⟩).run P w = .ok (.agg vs.toArray) w := run_loadVar_agg (hT t x hx) hok1.1 (by omega) fun j v ev => by
            rw [add_lit, cell_at hh]
            simpa using ev
          refine ⟨.agg vs.toArray :: us, ?_, by simp only [DenL]; exact ⟨_, _, rfl, by simp only [Den]; exact ⟨vs, rfl, hdl, h1c⟩, h2⟩⟩
          simp only [List.mapM_cons, resOne, Sem.run_bind, hptr, asAddr, Sem.run_pure, Result.andThen_ok, hload, h1]
      · rename_i sz n sc f hcs
        simp only [Option.map_eq_some_iff] at e
        obtain ⟨l, hl, rfl⟩ := e
        obtain ⟨us, h1, h2⟩ := resV_sound hT h (rs := r) hok.2 hl
        have hok1 := hok.1.2
        simp only [hcs] at hok1
        cases hx : tget T t with
        | none => simp [hx] at hok1
        | some x =>
          simp only [hx] at hok1
          simp only [Bool.and_eq_true, beq_iff_eq] at hok1
          obtain ⟨ha, rfl, hn⟩ := hok1
          obtain ⟨⟨b', vs, ty, hb', hh, hlen, h1c, hc⟩, _⟩ := h.st.obj i _ hcs
          rw [hb] at hb'; injection hb' with hb'; subst hb'
          have hload : (loadVar t ⟨b, 0, none⟩).run P w = .ok (.agg vs.toArray) w := run_loadVar_agg (hT t x hx) ha (by omega) fun j v ev => by
            rw [add_lit, cell_at hh]
            simpa using ev
          refine ⟨.agg vs.toArray :: us, ?_, by simp only [DenL]; exact ⟨_, _, rfl, by simp only [Den]; exact ⟨vs, rfl, by omega, fun j hj => by
            obtain ⟨c, e1, e2⟩ := hc j hj 0 (by omega)
            exact ⟨c, by simpa using e1, e2⟩⟩, h2⟩⟩
          simp only [List.mapM_cons, resOne, Sem.run_bind, hptr, asAddr, Sem.run_pure, Result.andThen_ok, hload, h1]
      · cases e
    · cases e

theorem DenL.of_get {σ : Asg} {I : Nat → Prop} {w : World} : ∀ {as : List AV} {us : List Value}, us.length = as.length → (∀ (j : Nat) a, as[j]? = some a → ∃ u, us[j]? = some u ∧ Den σ I w a u) → DenL σ I w as us
  | [], us, hl, _ => by simp at hl; subst hl; simp [DenL]
  | a :: as, us, hl, h => by
    match us, hl with
    | u :: us, hl =>
      simp only [DenL]
      obtain ⟨u', e, hd⟩ := h 0 a rfl
      simp at e; subst e
      exact ⟨_, _, rfl, hd, DenL.of_get (by simpa using hl) fun j a e => by simpa using h (j + 1) a (by simpa using e)⟩

/-- the parameters lie in the first slots -/
def parms : Nat → List AV → List (Nat × AV)
  | _, [] => []
  | k, a :: r => (k, a) :: parms (k + 1) r

theorem parms_get : ∀ (as : List AV) (k t : Nat), fget (parms k as) t = if k ≤ t then (as[t - k]?).getD .top else .top
  | [], k, t => by simp [parms, fget]
  | a :: as, k, t => by
    simp only [parms, fget]
    by_cases ht : k = t
    · subst ht; simp
    · rw [if_neg ht, parms_get as (k + 1) t]
      by_cases hk : k ≤ t
      · rw [if_pos (by omega), if_pos hk]
        congr 1
        rw [show t - k = (t - (k + 1)) + 1 from by omega]
        simp
      · rw [if_neg (by omega), if_neg hk]

/-- the ghost slots: where the objects that came in lie now -/
def ghosts : Nat → List OB → List (Nat × AV)
  | _, [] => []
  | k, _ :: r => (1000000 + k, .gh k) :: ghosts (k + 1) r

/-- behind the call object k is what ghost slot k says -/
def pinned (S : AS) (π : List Nat) : Nat → List OB → Prop
  | _, [] => True
  | k, _ :: r => fget S.fr (1000000 + k) = .gh ((π[k]?).getD k) ∧ pinned S π (k + 1) r

/-- the end of a function that was handed objects -/
def FinM (T : Tab) (rs : List ResultVar) (obs0 : List OB) (K : List OB → AV → Prop) (S : AS) : Prop :=
  resOk T S rs = true ∧ match resA S rs with
  | some r => ∃ π obs' r', nodupB π = true ∧ SubOb π obs'.length S.obs π obs' ∧ r = AV.ren π r' ∧ AV.idsLt obs'.length r' = true ∧ pinned S π 0 obs0 ∧ obs0.length ≤ obs'.length ∧ K obs' r'
  | none => False

def FinMK (T : Tab) (rs : List ResultVar) (obs0 : List OB) (K : List OB → AV → Prop) : Ex → AS → Prop
  | .nm, S => FinM T rs obs0 K S
  | .rt, S => FinM T rs obs0 K S
  | .ex _, _ => False

theorem resA_sound {P : Program} {T : Tab} (hT : TabOk P T) {fn : Func} {rs : List ResultVar} (hres : fn.results.toList = rs) {w0 : Env} {w : World} {I0 I : Nat → Prop} {S : AS} {σ : Asg} {tm : Array Value} (h5 : Rel w0 I0 S σ I tm w) (h3 : resOk T S rs = true) {r : AV} (hr : resA S rs = some r) :
    ∃ u, (results fn tm).run P w = .ok u w ∧ Den σ I w r u := by
  unfold resA at hr
  have go : ∀ {as : List AV}, resV S rs = some as → ∃ us : List Value, (fn.results.mapM (resOne tm)).run P w = .ok us.toArray w ∧ DenL σ I w as us := fun he => by
    obtain ⟨us, g1, g2⟩ := resV_sound hT h5 h3 he
    refine ⟨us, ?_, g2⟩
    rw [Array.mapM_eq_mapM_toList, Sem.run_map, hres, g1]
    rfl
  split at hr
  · rename_i x hx
    injection hr with hr; subst hr
    obtain ⟨us, g1, g2⟩ := go hx
    simp only [DenL] at g2
    obtain ⟨u, us', rfl, g2, rfl⟩ := g2
    refine ⟨u, ?_, g2⟩
    rw [results_eq, Sem.run_bind, g1]
    simp
  · rename_i l hne hl
    injection hr with hr; subst hr
    obtain ⟨us, g1, g2⟩ := go hl
    refine ⟨.tuple us.toArray, ?_, by simp only [Den]; exact ⟨us, rfl, g2⟩⟩
    have hne' : ¬ us.toArray.size = 1 := fun e => by
      have := g2.len
      match l, this with
      | [x], _ => exact hne x rfl
      | [], h => simp at h e; simp [h] at e
      | _ :: _ :: _, h => simp at h e; omega
    rw [results_eq, Sem.run_bind, g1]
    simp only [Result.andThen_ok]
    rw [dif_neg hne']
    rfl
  · cases hr

/-- the frame that a call begins with -/
theorem start_fr {σ : Asg} {I : Nat → Prop} {w : World} {E : Env} {as : List AV} {vs : List Value} {N : Nat} (hd : DenL σ I w as vs) (hlt : as.length ≤ N) (hN : N ≤ 1000000) (g : List (Nat × AV)) (hg : ∀ t, t < 1000000 → fget g t = .top)
    (hgh : ∀ t, 1000000 ≤ t → Den σ I w (fget g t) (E.gh (t - 1000000))) : ∀ t, Den σ I w (fget (parms 0 as ++ g) t) (E.tv (vs.toArray ++ Array.replicate (N - vs.toArray.size) undef) t) := by
  have happ : ∀ (as : List AV) (k t : Nat), fget (parms k as ++ g) t = if k ≤ t ∧ t < k + as.length then (as[t - k]?).getD .top else fget g t := by
    intro as
    induction as with
    | nil => intro k t; rw [if_neg (by simp)]; rfl
    | cons a as ih =>
      intro k t
      simp only [parms, List.cons_append, fget]
      by_cases ht : k = t
      · subst ht; simp
      · rw [if_neg ht, ih (k + 1) t]
        by_cases h1 : k + 1 ≤ t ∧ t < k + 1 + as.length
        · rw [if_pos h1, if_pos (by simp; omega), show t - k = (t - (k + 1)) + 1 from by omega]
          simp
        · rw [if_neg h1, if_neg (by simp; omega)]
  intro t
  have hlen := hd.len
  rw [happ as 0 t]
  by_cases ht : t < as.length
  · rw [if_pos (by omega)]
    obtain ⟨u, e1, e2⟩ := hd.get t as[t] (List.getElem?_eq_getElem ht)
    have htl : t < vs.length := by omega
    rw [tv_low (by omega)]
    have : (vs.toArray ++ Array.replicate (N - vs.toArray.size) undef).getD t undef = u := by
      rw [Array.getD_eq_getD_getElem?, Array.getElem?_append_left (by simpa using htl)]
      simp [e1]
    rw [this, Nat.sub_zero, List.getElem?_eq_getElem ht]
    exact e2
  · rw [if_neg (by omega)]
    by_cases h0 : t < 1000000
    · rw [hg t h0]; simp only [Den]
    · have : E.tv (vs.toArray ++ Array.replicate (N - vs.toArray.size) undef) t = E.gh (t - 1000000) := if_neg h0
      rw [this]
      exact hgh t (by omega)

/-- a function's contract, out of a walk of its code -/
theorem fn_of_wpx {P : Program} {T : Tab} {Γ : Gam} {O : Ord} (hT : TabOk P T) (hG : GOk P Γ) (hm : P.follows .mixedOrders = true) {f : FuncId} {fn : Func} {c : Code} {rs : List ResultVar} {N : Nat} {args : List AV} {K : List OB → AV → Prop}
    (hf : P.funcs[f]? = some fn) (hname : (fn.name == "runtime.NumGoroutine") = false) (hb : fn.body = some c) (hres : fn.results.toList = rs) (hN : fn.ntmps = N) (hlt : args.length ≤ N)
    (hok : (Nat.ble N 1000000 && codeOk (Gq Γ) N O c) = true) (h : wpx P T Γ N O c ⟨parms 0 args, []⟩ (FinK T rs K)) : Fn P f args K := by
  refine ⟨⟨fn, hf, hname, by rw [hb]; rfl⟩, fun w I vs hI hd => calls_of_wp hf hb ?_⟩
  simp only [Bool.and_eq_true, Nat.ble_eq] at hok
  have hlen := hd.len
  let E : Env := ⟨w, fun b => w.heap.size ≤ b, fun _ => undef, fun _ h => h⟩
  have hr : Rel E I ⟨parms 0 args, []⟩ Asg.zero I (vs.toArray ++ Array.replicate (fn.ntmps - vs.toArray.size) undef) w := by
    refine ⟨SameF.refl _ w, ⟨rfl, hI, fun i o e => by simp at e, fun i o b e => by simp at e, fun i j oi oj b e => by simp at e⟩, ?_, fun _ h => h, fun _ h => .inl h, by simp; omega⟩
    have := start_fr (E := E) (N := fn.ntmps) hd (by omega) (by omega) [] (fun t _ => rfl) (fun t _ => by simp only [fget, Den])
    simpa using this
  have hw := wpx_sound hT hG hm c _ _ hok.2 h E I Asg.zero I { tmps := vs.toArray ++ Array.replicate (fn.ntmps - vs.toArray.size) undef, defers := [] } w rfl (by simp; omega) hr
  refine Code.wp_mono (fun e a w' q => ?_) hw
  have fin : ∀ {a : Act} {w' : World}, At E I N (Fin T rs K) a w' → a.defers = [] ∧ ∃ v, (results fn a.tmps).run P w' = .ok v w' ∧ FnPost w I K (.returned v) w' := by
    rintro a w' ⟨h1, h2, S, σ, I', ⟨h3, h4⟩, h5⟩
    refine ⟨h1, ?_⟩
    split at h4
    · rename_i r hr
      obtain ⟨u, hrun, hden⟩ := resA_sound hT hres h5 h3 hr
      refine ⟨u, hrun, ?_⟩
      have hsm : Same w w' := h5.same0.same
      rcases h4 with ⟨π, obs', r', hn, hob, rfl, hid, hk⟩ | hk
      · exact ⟨u, σ.ren π obs'.length, I', obs', r', rfl, hk, hsm, h5.i1, h5.i2, h5.st.ren hn hob, ren_den hid hden⟩
      · have hkill := h5.kill (idsOf S.obs r)
        refine ⟨u, Asg.zero, frozenI σ I' S.obs (idsOf S.obs r), [], frz S.obs r, rfl, hk, hsm, fun b hb => .inl (h5.i1 b hb), hkill.i2, ?_, ?_⟩
        · exact ⟨rfl, hkill.st.imm, fun i o e => by simp at e, fun i o b e => by simp at e, fun i j oi oj b e => by simp at e⟩
        · exact frz_sound Asg.zero h5.st (fun _ hb => Or.inl hb) (fun i hi o b ho hl hb => .inr ⟨i, hi, o, ho, hl, hb⟩) hden
    · exact h4.elim
  cases e with
  | normal => exact fin q
  | ret => exact fin q
  | exit id => obtain ⟨_, _, _, _, _, hk, _⟩ := q; exact hk.elim
  | goto l => exact q
  | panic ch => exact q.elim
  | outgrown => exact q.elim

theorem ghosts_get : ∀ (os : List OB) (k t : Nat), fget (ghosts k os) t = if 1000000 + k ≤ t ∧ t < 1000000 + k + os.length then .gh (t - 1000000) else .top
  | [], k, t => by rw [if_neg (by simp)]; rfl
  | o :: r, k, t => by
    simp only [ghosts, fget]
    by_cases h : 1000000 + k = t
    · rw [if_pos h, if_pos (by simp; omega), show t - 1000000 = k by omega]
    · rw [if_neg h, ghosts_get r (k + 1) t]
      by_cases h1 : 1000000 + (k + 1) ≤ t ∧ t < 1000000 + (k + 1) + r.length
      · rw [if_pos h1, if_pos (by simp; omega)]
      · rw [if_neg h1, if_neg (by simp; omega)]

theorem pinned_get {S : AS} {π : List Nat} : ∀ {os : List OB} {k : Nat}, pinned S π k os → ∀ i, i < os.length → fget S.fr (1000000 + (k + i)) = .gh ((π[k + i]?).getD (k + i))
  | [], k, _, i, e => by simp at e
  | o0 :: r, k, h, 0, _ => h.1
  | o0 :: r, k, h, i + 1, e => by
    have := pinned_get h.2 i (by simpa using e)
    rwa [show k + 1 + i = k + (i + 1) by omega] at this

/-- the contract of a function that is handed objects, out of a walk of its code -/
theorem fnM_of_wpx {P : Program} {T : Tab} {Γ : Gam} {O : Ord} (hT : TabOk P T) (hG : GOk P Γ) (hm : P.follows .mixedOrders = true) {f : FuncId} {fn : Func} {c : Code} {rs : List ResultVar} {N : Nat} {obs0 : List OB} {args : List AV} {K : List OB → AV → Prop}
    (hf : P.funcs[f]? = some fn) (hname : (fn.name == "runtime.NumGoroutine") = false) (hb : fn.body = some c) (hres : fn.results.toList = rs) (hN : fn.ntmps = N) (hlt : args.length ≤ N)
    (hok : (Nat.ble N 1000000 && codeOk (Gq Γ) N O c) = true) (h : wpx P T Γ N O c ⟨parms 0 args ++ ghosts 0 obs0, obs0⟩ (FinMK T rs obs0 K)) : FnM P f obs0 args K := by
  refine ⟨⟨fn, hf, hname, by rw [hb]; rfl⟩, fun w I σ0 vs hst hd => calls_of_wp hf hb ?_⟩
  simp only [Bool.and_eq_true, Nat.ble_eq] at hok
  have hlen := hd.len
  let E : Env := ⟨w, ownF w σ0 obs0, fun k => .tuple #[σ0.hdr k, blkV (σ0.blk k), subV (σ0.sub k)], fun _ h => .inl h⟩
  have hr : Rel E I ⟨parms 0 args ++ ghosts 0 obs0, obs0⟩ σ0 I (vs.toArray ++ Array.replicate (fn.ntmps - vs.toArray.size) undef) w := by
    refine ⟨SameF.refl _ w, hst, ?_, fun _ h => h, fun _ h => .inl h, by simp; omega⟩
    refine start_fr (E := E) (N := fn.ntmps) hd (by omega) (by omega) (ghosts 0 obs0) (fun t ht => ?_) (fun t ht => ?_)
    · rw [ghosts_get, if_neg (by omega)]
    · rw [ghosts_get]
      split
      · rename_i h1
        simp only [Den]
        exact ⟨by rw [hst.cnt]; omega, rfl⟩
      · simp only [Den]
  have hw := wpx_sound hT hG hm c _ _ hok.2 h E I σ0 I { tmps := vs.toArray ++ Array.replicate (fn.ntmps - vs.toArray.size) undef, defers := [] } w rfl (by simp; omega) hr
  refine Code.wp_mono (fun e a w' q => ?_) hw
  have fin : ∀ {a : Act} {w' : World}, At E I N (FinM T rs obs0 K) a w' → a.defers = [] ∧ ∃ v, (results fn a.tmps).run P w' = .ok v w' ∧ FnPostM w (ownF w σ0 obs0) I σ0 K (.returned v) w' := by
    rintro a w' ⟨h1, h2, S, σ, I', ⟨h3, h4⟩, h5⟩
    refine ⟨h1, ?_⟩
    split at h4
    · rename_i r hr
      obtain ⟨u, hrun, hden⟩ := resA_sound hT hres h5 h3 hr
      refine ⟨u, hrun, ?_⟩
      obtain ⟨π, obs', r', hn, hob, rfl, hid, hpin, hle, hk⟩ := h4
      have hgh : ∀ i, i < σ0.cnt → (σ.ren π obs'.length).hdr i = σ0.hdr i ∧ (σ.ren π obs'.length).blk i = σ0.blk i ∧ (σ.ren π obs'.length).sub i = σ0.sub i := fun i hi => by
        have hp := pinned_get hpin i (by rw [← hst.cnt]; exact hi)
        rw [Nat.zero_add] at hp
        have hden' := h5.fr (1000000 + i)
        rw [hp] at hden'
        simp only [Den] at hden'
        have hv : E.tv a.tmps (1000000 + i) = .tuple #[σ0.hdr i, blkV (σ0.blk i), subV (σ0.sub i)] := by
          have h9 : ∀ q : Nat, q + i - q = i := fun q => Nat.add_sub_cancel_left _ _
          have h8 : E.tv a.tmps (1000000 + i) = E.gh (1000000 + i - 1000000) := if_neg (by omega)
          rw [h8, h9]
        rw [hv] at hden'
        obtain ⟨_, he⟩ := hden'
        injection he with he
        have he1 := congrArg (·[0]?) he
        have he2 := congrArg (·[1]?) he
        have he3 := congrArg (·[2]?) he
        simp at he1 he2 he3
        exact ⟨he1.symm, (blkV_inj he2).symm, (subV_inj he3).symm⟩
      exact ⟨u, σ.ren π obs'.length, I', obs', r', rfl, hk, h5.same0, h5.i1, h5.i2, h5.st.ren hn hob, ren_den hid hden,
        ⟨by rw [hst.cnt]; exact hle, fun i hi => (hgh i hi).2.1, fun i hi => (hgh i hi).1, fun i hi => (hgh i hi).2.2⟩⟩
    · exact h4.elim
  cases e with
  | normal => exact fin q
  | ret => exact fin q
  | exit id => obtain ⟨_, _, _, _, _, hk, _⟩ := q; exact hk.elim
  | goto l => exact q
  | panic ch => exact q.elim
  | outgrown => exact q.elim

end Go.Proofs.YtjfnhehjhicnoaaDoor
