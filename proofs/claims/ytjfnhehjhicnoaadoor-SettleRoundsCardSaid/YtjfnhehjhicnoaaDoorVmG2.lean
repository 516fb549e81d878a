/-
  Calls that are handed objects which they may write.
-/
import Derived.Test.YtjfnhehjhicnoaaDoorVmG
namespace Go.Proofs.YtjfnhehjhicnoaaDoor
open Go.RowKit

theorem pos_spec : ∀ {ids : List Nat} {i k : Nat}, pos i ids = some k → ids[k]? = some i
  | [], i, k, h => by simp [pos] at h
  | j :: r, i, k, h => by
    simp only [pos] at h
    split at h
    · rename_i hj; injection h with h; subst h hj; rfl
    · split at h
      · rename_i q hq
        injection h with h; subst h
        simpa using pos_spec hq
      · cases h
theorem pos_none : ∀ {ids : List Nat} {i : Nat}, pos i ids = none → i ∉ ids
  | [], i, _ => by simp
  | j :: r, i, h => by
    simp only [pos] at h
    split at h
    · cases h
    · rename_i hj
      split at h
      · cases h
      · rename_i hq
        have := pos_none hq
        simp only [List.mem_cons, not_or]
        exact ⟨fun e => hj e.symm, this⟩

theorem nodupB_inj : ∀ {π : List Nat}, nodupB π = true → ∀ (i j p : Nat), π[i]? = some p → π[j]? = some p → i = j
  | [], _, i, j, p, hi, _ => by simp at hi
  | a :: r, h, i, j, p, hi, hj => by
    simp only [nodupB, Bool.and_eq_true, Bool.not_eq_true'] at h
    have hnot : ∀ m, r[m]? = some a → False := fun m hm => by
      have := List.mem_of_getElem? hm
      have h1 := h.1
      simp at h1
      exact h1 this
    cases i with
    | zero =>
      cases j with
      | zero => rfl
      | succ j =>
        simp at hi hj
        subst hi
        exact (hnot j hj).elim
    | succ i =>
      cases j with
      | zero =>
        simp at hi hj
        subst hj
        exact (hnot i hi).elim
      | succ j =>
        simp at hi hj
        exact congrArg _ (nodupB_inj h.2 i j p hi hj)

def Asg.sel (σ : Asg) (ids : List Nat) : Asg := ⟨ids.length, fun k => (ids[k]?).bind σ.blk, fun k => match ids[k]? with | some i => σ.hdr i | none => undef, fun k => match ids[k]? with | some i => σ.sub i | none => []⟩

section
variable {σ : Asg} {I J : Nat → Prop} {w : World} {B : Nat → Prop} {obs : List OB} {ids : List Nat} {i k : Nat}

theorem sel_blk (h : ids[k]? = some i) : (σ.sel ids).blk k = σ.blk i := by simp [Asg.sel, h]
theorem sel_hdr (h : ids[k]? = some i) : (σ.sel ids).hdr k = σ.hdr i := by simp [Asg.sel, h]
theorem sel_sub (h : ids[k]? = some i) : (σ.sel ids).sub k = σ.sub i := by simp [Asg.sel, h]
theorem sel_has {b : Nat} (h : ids[k]? = some i) : (σ.sel ids).has k b ↔ σ.has i b := by
  unfold Asg.has
  rw [sel_blk h, sel_sub h]
theorem sel_lt (h : ids[k]? = some i) : k < (σ.sel ids).cnt := (List.getElem?_eq_some_iff.1 h).1

mutual
theorem argM_sound (h : Store σ I w B obs) (hI : ∀ b, I b → J b) : ∀ {a : AV} {u : Value}, (∀ i ∈ idsM obs ids a, ∀ o b, obs[i]? = some o → o.live = true → σ.blk i = some b → J b) → Den σ I w a u → Den (σ.sel ids) J w (argM obs ids a) u
  | .own i, u, hi, hd => by
    simp only [argM]
    split
    · rename_i k hk
      have := pos_spec hk
      simp only [Den] at hd ⊢
      exact ⟨sel_lt this, by rw [sel_hdr this]; exact hd.2.1, hd.2.2⟩
    · rename_i hk
      exact frz_sound _ h hI (fun j hj => hi j (by simp only [idsM, hk]; simpa [idsOf] using hj)) hd
  | .lp i off, u, hi, hd => by
    simp only [argM]
    split
    · rename_i k hk
      have := pos_spec hk
      simp only [Den] at hd ⊢
      obtain ⟨_, b, hb, rfl⟩ := hd
      exact ⟨sel_lt this, b, by rw [sel_blk this]; exact hb, rfl⟩
    · rename_i hk
      exact frz_sound _ h hI (fun j hj => hi j (by simp only [idsM, hk]; exact hj)) hd
  | .rp i sz q j, u, hi, hd => by
    simp only [argM]
    split
    · rename_i k hk
      have := pos_spec hk
      simp only [Den] at hd ⊢
      obtain ⟨_, b, hb, rfl⟩ := hd
      exact ⟨sel_lt this, b, by rw [sel_blk this]; exact hb, rfl⟩
    · simp only [Den]
  | .ov i sz lo n, u, hi, hd => by
    simp only [argM]
    split
    · rename_i k hk
      have := pos_spec hk
      simp only [Den] at hd ⊢
      obtain ⟨_, A, cap, h2, h3, h4, h5⟩ := hd
      exact ⟨sel_lt this, A, cap, h2, h3, h4, fun h0 => by rw [sel_hdr this]; exact h5 h0⟩
    · rename_i hk
      exact frz_sound _ h hI (fun j hj => hi j (by simp only [idsM, hk]; simpa [idsOf] using hj)) hd
  | .agg cs, u, hi, hd => by
    simp only [argM, Den] at hd ⊢
    obtain ⟨us, e, h1, h2⟩ := hd
    exact ⟨us, e, argML_sound h hI (fun i hi' => hi i (by simpa only [idsM] using hi')) h1, h2⟩
  | .tup cs, u, hi, hd => by
    simp only [argM, Den] at hd ⊢
    obtain ⟨us, e, h1⟩ := hd
    exact ⟨us, e, argML_sound h hI (fun i hi' => hi i (by simpa only [idsM] using hi')) h1⟩
  | .fn f cs, u, hi, hd => by
    simp only [argM, Den] at hd ⊢
    obtain ⟨us, e, h1⟩ := hd
    exact ⟨us, e, argML_sound h hI (fun i hi' => hi i (by simpa only [idsM] using hi')) h1⟩
  | .gd _ _, u, _, _ => by simp only [argM, Den]
  | .top, u, _, _ => by simp only [argM, Den]
  | .c l, u, _, hd => by
    simp only [argM, Den] at hd ⊢
    exact L.rd_mono (Keeps.refl I w) hI hd
  | .xp n f, u, _, hd => by
    simp only [argM, Den] at hd ⊢
    obtain ⟨a, e, hb, hc⟩ := hd
    exact ⟨a, e, hI _ hb, fun j hj => by
      obtain ⟨c, e1, e2⟩ := hc j hj
      exact ⟨c, e1, L.rd_mono (Keeps.refl I w) hI e2⟩⟩
  | .cp sz n f, u, _, hd => by
    simp only [argM, Den] at hd ⊢
    exact L.rd_mono (Keeps.refl I w) hI hd.1
  | .gh _, u, _, _ => by simp only [argM, Den]
  | .av n f, u, _, hd => by
    simp only [argM, Den] at hd ⊢
    obtain ⟨us, e, h1, h2⟩ := hd
    exact ⟨us, e, h1, fun j hj => by
      obtain ⟨c, e1, e2⟩ := h2 j hj
      exact ⟨c, e1, L.rd_mono (Keeps.refl I w) hI e2⟩⟩
  | .sb i n, u, hi, hd => by
    simp only [argM]
    split
    · rename_i k hk
      have := pos_spec hk
      simp only [Den] at hd ⊢
      obtain ⟨_, b, hb, h2⟩ := hd
      exact ⟨sel_lt this, b, by rw [sel_blk this]; exact hb, h2⟩
    · rename_i hk
      exact frz_sound _ h hI (fun j hj => hi j (by simp only [idsM, hk]; exact hj)) hd
  | .gt g cs, u, _, hd => by
    simp only [argM, Den] at hd ⊢
    exact ⟨hI _ hd.1, hd.2⟩
  | .gr .., u, _, _ => by simp only [argM, Den]
  | .gp .., u, _, _ => by simp only [argM, Den]
theorem argML_sound (h : Store σ I w B obs) (hI : ∀ b, I b → J b) : ∀ {as : List AV} {us : List Value}, (∀ i ∈ idsML obs ids as, ∀ o b, obs[i]? = some o → o.live = true → σ.blk i = some b → J b) → DenL σ I w as us → DenL (σ.sel ids) J w (argML obs ids as) us
  | [], us, _, hd => by simp only [argML, DenL] at hd ⊢; exact hd
  | a :: as, us, hi, hd => by
    simp only [argML, DenL] at hd ⊢
    obtain ⟨u, us', e, h1, h2⟩ := hd
    exact ⟨u, us', e, argM_sound h hI (fun i hi' => hi i (by simp only [idsML, List.mem_append]; exact .inl hi')) h1, argML_sound h hI (fun i hi' => hi i (by simp only [idsML, List.mem_append]; exact .inr hi')) h2⟩
end

theorem objsM_get {ids0 : List Nat} : ∀ {l : List Nat} {k : Nat}, (objsM obs ids0 l)[k]? = (l[k]?).map fun i => objM obs ids0 obs[i]?
  | [], k => by simp [objsM]
  | i :: r, 0 => by simp [objsM]
  | i :: r, k + 1 => by simpa [objsM] using objsM_get (l := r) (k := k)
theorem objsM_len {ids0 : List Nat} : ∀ {l : List Nat}, (objsM obs ids0 l).length = l.length
  | [] => rfl
  | i :: r => by simp [objsM, objsM_len (l := r)]
theorem oidsM_mem {ids0 : List Nat} : ∀ {l : List Nat} {i : Nat} {cs : List AV}, i ∈ l → obs[i]? = some (.box cs) → ∀ j ∈ idsML obs ids0 cs, j ∈ oidsM obs ids0 l
  | [], i, cs, h, _, _, _ => by simp at h
  | i' :: r, i, cs, h, ho, j, hj => by
    simp only [oidsM, List.mem_append]
    rcases List.mem_cons.1 h with rfl | h
    · left; simp only [ho]; exact hj
    · right; exact oidsM_mem h ho j hj

theorem objM_live {o : Option OB} (h : (objM obs ids o).live = true) : ∃ o', o = some o' ∧ o'.live = true := by
  cases o with
  | none => cases h
  | some o' => exact ⟨o', rfl, by cases o' <;> first | rfl | exact h⟩

theorem objM_rel (h : Store σ I w B obs) (hI : ∀ b, I b → J b) (hk : ids[k]? = some i) (hfz : ∀ cs, obs[i]? = some (.box cs) → ∀ j ∈ idsML obs ids cs, ∀ o b, obs[j]? = some o → o.live = true → σ.blk j = some b → J b) :
    ObjRel (σ.sel ids) J w k (objM obs ids obs[i]?) := by
  cases ho : obs[i]? with
  | none => trivial
  | some o =>
    have hr := h.obj i o ho
    cases o with
    | dead => trivial
    | box cs =>
      obtain ⟨b, us, ty, h1, h2, h3, h4⟩ := hr
      exact ⟨b, us, ty, (sel_blk hk).trans h1, h2, argML_sound h hI (hfz cs ho) h3, h4⟩
    | row e sz n sc f => exact ⟨hr.1.mono (sel_hdr hk) (sel_blk hk) (Keeps.refl I w) hI (fun _ _ => rfl), hr.2⟩
    | arr sz n sc f =>
      obtain ⟨⟨b, xs, ty, h1, h2, h3, h4, h5⟩, h6⟩ := hr
      exact ⟨⟨b, xs, ty, (sel_blk hk).trans h1, h2, h3, h4, fun q hq j hj => by
        obtain ⟨c, e1, e2⟩ := h5 q hq j hj
        exact ⟨c, e1, L.rd_mono (Keeps.refl I w) hI e2⟩⟩, h6⟩
    | keys ks =>
      obtain ⟨b, es, clock, h1, h2, h3⟩ := hr
      exact ⟨b, es, clock, (sel_blk hk).trans h1, (sel_hdr hk).trans h2, h3⟩
    | bld T e b l =>
      show BldRel _ _ _ _ _ _ _
      rw [sel_blk hk, sel_sub hk]
      exact hr
    | grid e n m f =>
      show GridRel _ _ _ _ _ _ _ _
      rw [sel_hdr hk, sel_blk hk, sel_sub hk]
      exact hr
end

section
variable {σ τ : Asg} {I : Nat → Prop} {w : World} {ρ : Nat → Nat}
/-- τ's objects lie in σ under other numbers -/
def MpOk (τ σ : Asg) (ρ : Nat → Nat) : Prop := ∀ k, k < τ.cnt → ρ k < σ.cnt ∧ σ.blk (ρ k) = τ.blk k ∧ σ.hdr (ρ k) = τ.hdr k ∧ σ.sub (ρ k) = τ.sub k
theorem MpOk.has (h : MpOk τ σ ρ) {k b : Nat} (hk : k < τ.cnt) : σ.has (ρ k) b ↔ τ.has k b := by
  unfold Asg.has
  rw [(h k hk).2.1, (h k hk).2.2.2]

mutual
theorem mp_den (h : MpOk τ σ ρ) : ∀ {a : AV} {u : Value}, Den τ I w a u → Den σ I w (a.mp ρ) u
  | .lp i o, u, hd => by
    simp only [AV.mp, Den] at hd ⊢
    obtain ⟨h1, b, h2, h3⟩ := hd
    obtain ⟨q1, q2, q3, q4⟩ := h i h1
    exact ⟨q1, b, q2.trans h2, h3⟩
  | .rp i sz k j, u, hd => by
    simp only [AV.mp, Den] at hd ⊢
    obtain ⟨h1, b, h2, h3⟩ := hd
    obtain ⟨q1, q2, q3, q4⟩ := h i h1
    exact ⟨q1, b, q2.trans h2, h3⟩
  | .own i, u, hd => by
    simp only [AV.mp, Den] at hd ⊢
    obtain ⟨q1, q2, q3, q4⟩ := h i hd.1
    exact ⟨q1, hd.2.1.trans q3.symm, hd.2.2⟩
  | .ov i sz lo n, u, hd => by
    simp only [AV.mp, Den] at hd ⊢
    obtain ⟨h1, A, cap, h2, h3, h4, h5⟩ := hd
    obtain ⟨q1, q2, q3, q4⟩ := h i h1
    exact ⟨q1, A, cap, h2, h3, h4, fun h0 => by rw [q3]; exact h5 h0⟩
  | .agg cs, u, hd => by
    simp only [AV.mp, Den] at hd ⊢
    obtain ⟨us, e, h1, h2⟩ := hd
    exact ⟨us, e, mpL_den h h1, h2⟩
  | .tup cs, u, hd => by
    simp only [AV.mp, Den] at hd ⊢
    obtain ⟨us, e, h1⟩ := hd
    exact ⟨us, e, mpL_den h h1⟩
  | .fn f cs, u, hd => by
    simp only [AV.mp, Den] at hd ⊢
    obtain ⟨us, e, h1⟩ := hd
    exact ⟨us, e, mpL_den h h1⟩
  | .gd b a, u, hd => by
    simp only [AV.mp, Den] at hd ⊢
    exact ⟨fun hb => mp_den h (hd.1 hb), hd.2⟩
  | .top, u, hd => by simp only [AV.mp, Den]
  | .c l, u, hd => by simpa only [AV.mp, Den] using hd
  | .xp k f, u, hd => by simpa only [AV.mp, Den] using hd
  | .cp sz n f, u, hd => by simpa only [AV.mp, Den] using hd
  | .av n f, u, hd => by simpa only [AV.mp, Den] using hd
  | .gt g cs, u, hd => by simpa only [AV.mp, Den] using hd
  | .sb i n, u, hd => by
    simp only [AV.mp, Den] at hd ⊢
    obtain ⟨h1, b, h2, h3⟩ := hd
    obtain ⟨q1, q2, q3, q4⟩ := h i h1
    exact ⟨q1, b, q2.trans h2, h3⟩
  | .gr i k m, u, hd => by
    simp only [AV.mp, Den] at hd ⊢
    obtain ⟨q1, q2, q3, q4⟩ := h i hd.1
    exact ⟨q1, by rw [q4]; exact hd.2⟩
  | .gp i k m, u, hd => by
    simp only [AV.mp, Den] at hd ⊢
    obtain ⟨q1, q2, q3, q4⟩ := h i hd.1
    exact ⟨q1, by rw [q4]; exact hd.2⟩
  | .gh i, u, hd => by
    simp only [AV.mp, Den] at hd ⊢
    obtain ⟨q1, q2, q3, q4⟩ := h i hd.1
    exact ⟨q1, by rw [q2, q3, q4]; exact hd.2⟩
theorem mpL_den (h : MpOk τ σ ρ) : ∀ {as : List AV} {us : List Value}, DenL τ I w as us → DenL σ I w (AV.mpL ρ as) us
  | [], us, hd => by simpa only [AV.mpL, DenL] using hd
  | a :: as, us, hd => by
    simp only [AV.mpL, DenL] at hd ⊢
    obtain ⟨u, us', e, h1, h2⟩ := hd
    exact ⟨u, us', e, mp_den h h1, mpL_den h h2⟩
end
theorem mp_live (o : OB) : (o.mp ρ).live = o.live := by cases o <;> rfl
theorem mp_obj (h : MpOk τ σ ρ) {k : Nat} (hk : k < τ.cnt) {o : OB} (hr : ObjRel τ I w k o) : ObjRel σ I w (ρ k) (o.mp ρ) := by
  obtain ⟨q1, q2, q3, q4⟩ := h k hk
  cases o with
  | dead => trivial
  | box cs =>
    obtain ⟨b, us, ty, h1, h2, h3, h4⟩ := hr
    exact ⟨b, us, ty, q2.trans h1, h2, mpL_den h h3, h4⟩
  | row e sz n sc f => exact ⟨hr.1.mono q3 q2 (Keeps.refl I w) (fun _ h => h) (fun _ _ => rfl), hr.2⟩
  | arr sz n sc f =>
    obtain ⟨⟨b, xs, ty, h1, h2⟩, h3⟩ := hr
    exact ⟨⟨b, xs, ty, q2.trans h1, h2⟩, h3⟩
  | keys ks =>
    obtain ⟨b, es, clock, h1, h2, h3⟩ := hr
    exact ⟨b, es, clock, q2.trans h1, q3.trans h2, h3⟩
  | bld T e b l =>
    show BldRel _ _ _ _ _ _ _
    rw [q2, q4]
    exact hr
  | grid e n m f =>
    show GridRel _ _ _ _ _ _ _ _
    rw [q2, q3, q4]
    exact hr

theorem setAll_len : ∀ (is : List Nat) (os base : List OB), (setAll base is os).length = base.length
  | [], os, base => by cases os <;> rfl
  | i :: is, [], base => rfl
  | i :: is, o :: os, base => by simp [setAll, setAll_len is os]
theorem setAll_ne {i : Nat} : ∀ (is : List Nat) (os base : List OB), i ∉ is → (setAll base is os)[i]? = base[i]?
  | [], os, base, _ => by cases os <;> rfl
  | j :: is, [], base, _ => rfl
  | j :: is, o :: os, base, h => by
    simp only [List.mem_cons, not_or] at h
    simp only [setAll]
    rw [setAll_ne is os _ h.2, List.getElem?_set_ne (fun e => h.1 e.symm)]
theorem setAll_at : ∀ (is : List Nat) (os base : List OB) (k i : Nat), nodupB is = true → is[k]? = some i → i < base.length → k < os.length → (setAll base is os)[i]? = os[k]?
  | [], os, base, k, i, _, h, _, _ => by simp at h
  | j :: is, [], base, k, i, _, _, _, h => by simp at h
  | j :: is, o :: os, base, k, i, hn, h, hi, hk => by
    simp only [setAll]
    have hn' := hn
    simp only [nodupB, Bool.and_eq_true, Bool.not_eq_true'] at hn
    cases k with
    | zero =>
      simp at h
      subst h
      rw [setAll_ne is os _ (by have := hn.1; simpa using this), List.getElem?_set_self hi]
      rfl
    | succ k =>
      simp at h
      rw [setAll_at is os (base.set j o) k i hn.2 h (by simpa using hi) (by simpa using hk)]
      rfl
end

theorem callM_sound {P : Program} {w0 : Env} {w : World} {I0 I : Nat → Prop} {S : AS} {σ : Asg} {tm : Array Value} {f : FuncId} {as : List AV} {us : List Value} {dst : Option Tmp} {K : AS → Prop}
    (hrel : Rel w0 I0 S σ I tm w) (hd : DenL σ I w as us) (hdst : ∀ t, dst = some t → t < tm.size) {ids : List Nat} (hok : mutOk S.obs ids as = true)
    (h : FnM P f (objsM S.obs ids ids) (argML S.obs ids as) fun obs' r => forceS (retM S ids as obs' r dst) K) :
    Callable P f ∧ Calls P f us.toArray w fun e w' => ∃ u, e = .returned u ∧ ∃ S' σ' I', K S' ∧ Rel w0 I0 S' σ' I' (putT tm dst u) w' := by
  have h := h.mono (fun _ _ hk => by rwa [forceS_eq] at hk)
  refine ⟨h.1, ?_⟩
  simp only [mutOk, Bool.and_eq_true, List.all_eq_true, Nat.blt_eq] at hok
  obtain ⟨hnd, hlt, hdis⟩ := hok
  have hdis : ∀ i ∈ fzM S.obs ids as, i ∉ ids := fun i hi hm => by
    have := hdis i hi
    simp at this
    exact this hm
  have hcnt : σ.cnt = S.obs.length := hrel.st.cnt
  have hkill := hrel.kill (fzM S.obs ids as)
  have hJ : ∀ b, I b → frozenI σ I S.obs (fzM S.obs ids as) b := fun _ hb => Or.inl hb
  have hfzJ : ∀ i ∈ fzM S.obs ids as, ∀ o b, S.obs[i]? = some o → o.live = true → σ.blk i = some b → frozenI σ I S.obs (fzM S.obs ids as) b := fun i hi o b ho hl hb => .inr ⟨i, hi, o, ho, hl, hb⟩
  -- what the callee is handed
  have hobs0 : ∀ (k : Nat) o, (objsM S.obs ids ids)[k]? = some o → ∃ i, ids[k]? = some i ∧ o = objM S.obs ids S.obs[i]? := fun k o e => by
    rw [objsM_get, Option.map_eq_some_iff] at e
    obtain ⟨i, e1, e2⟩ := e
    exact ⟨i, e1, e2.symm⟩
  have hst0 : Store (σ.sel ids) (frozenI σ I S.obs (fzM S.obs ids as)) w (ownF w (σ.sel ids) (objsM S.obs ids ids)) (objsM S.obs ids ids) := by
    refine ⟨by rw [objsM_len]; rfl, hkill.st.imm, fun k o e => ?_, fun k o b e hl hb => ?_, fun k k' o o' b e e' hl hl' hb hb' => ?_⟩
    · obtain ⟨i, e1, rfl⟩ := hobs0 k o e
      exact objM_rel hrel.st hJ e1 fun cs ho j hj => hfzJ j (List.mem_append.2 (.inr (oidsM_mem (List.mem_of_getElem? e1) ho j hj)))
    · refine ⟨.inr ⟨k, o, e, hl, hb⟩, ?_, ?_⟩
      · obtain ⟨i, e1, rfl⟩ := hobs0 k o e
        obtain ⟨o', ho', hl'⟩ := objM_live hl
        rw [sel_has e1] at hb
        rintro (hI | ⟨j, hj, oj, ej, hlj, hbj⟩)
        · exact (hrel.st.freshH i o' b ho' hl' hb).2.1 hI
        · have := hrel.st.injH i j o' oj b ho' ej hl' hlj hb (.inl hbj)
          subst this
          exact hdis i hj (List.mem_of_getElem? e1)
      · obtain ⟨i, e1, rfl⟩ := hobs0 k o e
        obtain ⟨o', ho', hl'⟩ := objM_live hl
        rw [sel_has e1] at hb
        exact (hrel.st.freshH i o' b ho' hl' hb).2.2
    · obtain ⟨i, e1, rfl⟩ := hobs0 k o e
      obtain ⟨o1, ho1, hl1⟩ := objM_live hl
      obtain ⟨i', e1', rfl⟩ := hobs0 k' o' e'
      obtain ⟨o2, ho2, hl2⟩ := objM_live hl'
      rw [sel_has e1] at hb
      rw [sel_has e1'] at hb'
      have := hrel.st.injH i i' o1 o2 b ho1 ho2 hl1 hl2 hb hb'
      subst this
      exact nodupB_inj hnd k k' i e1 e1'
  have hden0 : DenL (σ.sel ids) (frozenI σ I S.obs (fzM S.obs ids as)) w (argML S.obs ids as) us :=
    argML_sound hrel.st hJ (fun j hj => hfzJ j (List.mem_append.2 (.inl hj))) hd
  refine (h.2 w _ (σ.sel ids) us hst0 hden0).mono ?_
  rintro e w' ⟨u, τ, I', obs', r, rfl, hK, hsame, hI1, hI2, hst, hden, hle⟩
  refine ⟨u, rfl, retM S ids as obs' r dst, ?_⟩
  -- which blocks the callee may have turned
  have hF : ∀ b, ownF w (σ.sel ids) (objsM S.obs ids ids) b → w.heap.size ≤ b ∨ ∃ i o, i ∈ ids ∧ S.obs[i]? = some o ∧ o.live = true ∧ σ.has i b := fun b hb => by
    rcases hb with hb | ⟨k, o, e, hl, hb⟩
    · exact .inl hb
    · obtain ⟨i, e1, rfl⟩ := hobs0 k o e
      obtain ⟨o', ho', hl'⟩ := objM_live hl
      rw [sel_has e1] at hb
      exact .inr ⟨i, o', List.mem_of_getElem? e1, ho', hl', hb⟩
  have hFw : ∀ b, ownF w (σ.sel ids) (objsM S.obs ids ids) b → w0.F b := fun b hb => by
    rcases hF b hb with hb | ⟨i, o, _, ho, hl, hb⟩
    · exact hrel.hB b hb
    · exact (hrel.st.freshH i o b ho hl hb).1
  have hoth : ∀ i o b, i ∉ ids → S.obs[i]? = some o → o.live = true → σ.has i b → ¬ ownF w (σ.sel ids) (objsM S.obs ids ids) b := fun i o b hni ho hl hb hf => by
    have hfr := hrel.st.freshH i o b ho hl hb
    rcases hF b hf with hb' | ⟨j, oj, hj, hoj, hlj, hbj⟩
    · omega
    · have := hrel.st.injH i j o oj b ho hoj hl hlj hb hbj
      subst this
      exact hni hj
  have hkeepI : Keeps I w w' := fun b hb => hsame.block b (hrel.st.imm b hb) fun hf => by
    rcases hF b hf with hb' | ⟨j, oj, hj, hoj, hlj, hbj⟩
    · have := hrel.st.imm b hb; omega
    · exact (hrel.st.freshH j oj b hoj hlj hbj).2.1 hb
  have hkeepJ : Keeps (frozenI σ I S.obs (fzM S.obs ids as)) w w' := fun b hb => hsame.block b (hkill.st.imm b hb) fun hf => by
    rcases hF b hf with hb' | ⟨j, oj, hj, hoj, hlj, hbj⟩
    · have := hkill.st.imm b hb; omega
    · rcases hb with hb | ⟨i, hi, o, ho, hl, hb⟩
      · exact (hrel.st.freshH j oj b hoj hlj hbj).2.1 hb
      · have := hrel.st.injH i j o oj b ho hoj hl hlj (.inl hb) hbj
        subst this
        exact hdis i hi hj
  have hsame0 : SameF w0.F w0.w0 w' :=
    ⟨hsame.os.trans hrel.same0.os, hsame.tape.trans hrel.same0.tape, hsame.output.trans hrel.same0.output, Nat.le_trans hrel.same0.size hsame.size, fun b hb hn =>
      (hsame.block b (Nat.lt_of_lt_of_le hb hrel.same0.size) fun hf => hn (hFw b hf)).trans (hrel.same0.block b hb hn)⟩
  -- the new numbers
  have hn0 : (σ.sel ids).cnt = ids.length := rfl
  have hτc : τ.cnt = obs'.length := hst.cnt
  have hn0τ : ids.length ≤ τ.cnt := hle.cnt
  let L := S.obs.length
  let ρ := rhoM ids S.obs.length
  let ν : Asg := ⟨L + (τ.cnt - ids.length), fun i => if i < L then σ.blk i else τ.blk (i - L + ids.length), fun i => if i < L then σ.hdr i else τ.hdr (i - L + ids.length), fun i => if i < L then σ.sub i else τ.sub (i - L + ids.length)⟩
  have hleν : σ.le ν := ⟨by simp only [ν, L]; omega, fun i hi => if_pos (by simp only [L]; omega), fun i hi => if_pos (by simp only [L]; omega), fun i hi => if_pos (by simp only [L]; omega)⟩
  have hρin : ∀ k i, ids[k]? = some i → ρ k = i := fun k i e => by simp only [ρ, rhoM, e]
  have hρout : ∀ k, ids.length ≤ k → ρ k = k - ids.length + L := fun k hk => by
    have : ids[k]? = none := List.getElem?_eq_none hk
    simp only [ρ, rhoM, this, L]
  have hids : ∀ k, k < ids.length → ∃ i, ids[k]? = some i ∧ i < L := fun k hk => by
    refine ⟨ids[k], List.getElem?_eq_getElem hk, hlt _ (List.getElem_mem hk)⟩
  have hmp : MpOk τ ν ρ := fun k hk => by
    by_cases hkn : k < ids.length
    · obtain ⟨i, e, hi⟩ := hids k hkn
      rw [hρin k i e]
      refine ⟨by simp only [ν]; omega, ?_, ?_, ?_⟩
      · simp only [ν, if_pos hi]
        rw [hle.blk k (by rw [hn0]; exact hkn), sel_blk e]
      · simp only [ν, if_pos hi]
        rw [hle.hdr k (by rw [hn0]; exact hkn), sel_hdr e]
      · simp only [ν, if_pos hi]
        rw [hle.sub k (by rw [hn0]; exact hkn), sel_sub e]
    · have hkn' : ids.length ≤ k := by omega
      rw [hρout k hkn']
      have h1 : ¬ (k - ids.length + L < L) := by omega
      have h2 : k - ids.length + L - L + ids.length = k := by omega
      refine ⟨by simp only [ν]; omega, ?_, ?_, ?_⟩
      · simp only [ν, if_neg h1, h2]
      · simp only [ν, if_neg h1, h2]
      · simp only [ν, if_neg h1, h2]
  have hρinj : ∀ k k', k < τ.cnt → k' < τ.cnt → ρ k = ρ k' → k = k' := fun k k' hk hk' e => by
    by_cases h1 : k < ids.length
    · obtain ⟨i, e1, hi⟩ := hids k h1
      by_cases h2 : k' < ids.length
      · obtain ⟨i', e2, hi'⟩ := hids k' h2
        rw [hρin k i e1, hρin k' i' e2] at e
        subst e
        exact nodupB_inj hnd k k' i e1 e2
      · rw [hρin k i e1, hρout k' (by omega)] at e
        omega
    · by_cases h2 : k' < ids.length
      · obtain ⟨i', e2, hi'⟩ := hids k' h2
        rw [hρin k' i' e2, hρout k (by omega)] at e
        omega
      · rw [hρout k (by omega), hρout k' (by omega)] at e
        omega
  -- the objects behind the call
  have at_ : ∀ (base : List OB), base.length = L → ∀ (i : Nat) o, (setAll base ids ((obs'.take ids.length).map (OB.mp ρ)) ++ (obs'.drop ids.length).map (OB.mp ρ))[i]? = some o →
      (i ∉ ids ∧ i < L ∧ base[i]? = some o) ∨ ∃ k o', k < τ.cnt ∧ i = ρ k ∧ obs'[k]? = some o' ∧ o = o'.mp ρ := fun base hbl i o e => by
    have hsl := setAll_len ids ((obs'.take ids.length).map (OB.mp ρ)) base
    by_cases hi : i < L
    · rw [List.getElem?_append_left (by omega)] at e
      by_cases hm : i ∈ ids
      · obtain ⟨k, hk⟩ := List.mem_iff_getElem?.1 hm
        have hkl : k < ids.length := (List.getElem?_eq_some_iff.1 hk).1
        rw [setAll_at ids _ base k i hnd hk (by omega) (by simp; omega)] at e
        rw [List.getElem?_map, List.getElem?_take, if_pos hkl, Option.map_eq_some_iff] at e
        obtain ⟨o', e1, e2⟩ := e
        exact .inr ⟨k, o', by omega, (hρin k i hk).symm, e1, e2.symm⟩
      · rw [setAll_ne ids _ base hm] at e
        exact .inl ⟨hm, hi, e⟩
    · rw [List.getElem?_append_right (by omega), List.getElem?_map, List.getElem?_drop, Option.map_eq_some_iff] at e
      obtain ⟨o', e1, e2⟩ := e
      have hlt' := (List.getElem?_eq_some_iff.1 e1).1
      refine .inr ⟨ids.length + (i - (setAll base ids ((obs'.take ids.length).map (OB.mp ρ))).length), o', by omega, ?_, e1, e2.symm⟩
      rw [hρout _ (by omega)]
      omega
  have fin : ∀ (base : List OB) (Jn : Nat → Prop), base.length = L → (∀ b, I b → Jn b) → (∀ b, Jn b → b < w'.heap.size) → (∀ b, Jn b → I0 b ∨ w0.F b) → (∀ k o b, obs'[k]? = some o → o.live = true → τ.has k b → ¬ Jn b) →
      (∀ k o, obs'[k]? = some o → ObjRel τ Jn w' k o) → (∀ i o, i ∉ ids → base[i]? = some o → o = .dead ∨ (S.obs[i]? = some o ∧ ObjRel ν Jn w' i o ∧ ∀ b, o.live = true → σ.has i b → ¬ Jn b)) → Den τ Jn w' r u →
      Rel w0 I0 (AS.put { fr := S.fr, obs := setAll base ids ((obs'.take ids.length).map (OB.mp ρ)) ++ (obs'.drop ids.length).map (OB.mp ρ) } dst (r.mp ρ)) ν Jn (putT tm dst u) w' := by
    intro base Jn hbl hIJ hJlt hJ2 hJn hJo hJb hr
    refine Rel.put (S := { fr := S.fr, obs := setAll base ids ((obs'.take ids.length).map (OB.mp ρ)) ++ (obs'.drop ids.length).map (OB.mp ρ) }) ⟨hsame0, ?_, fun t => (hrel.fr t).mono hleν hkeepI hIJ, fun b hb => hIJ b (hrel.i1 b hb), hJ2, hrel.sz⟩ hdst (mp_den hmp hr)
    have hat := at_ base hbl
    have hasOld : ∀ i x, i < L → (ν.has i x ↔ σ.has i x) := fun i x hi => hleν.has (by rw [hcnt]; exact hi)
    have hF' : ∀ k o b, obs'[k]? = some o → o.live = true → τ.has k b → ownF w (σ.sel ids) (objsM S.obs ids ids) b := fun k o b e hl hb => (hst.freshH k o b e hl hb).1
    refine ⟨?_, hJlt, fun i o e => ?_, fun i o b e hl hb => ?_, fun i i' o o' b e e' hl hl' hb hb' => ?_⟩
    · have hsl := setAll_len ids ((obs'.take ids.length).map (OB.mp ρ)) base
      simp only [List.length_append, List.length_map, List.length_drop, hsl, ν]
      omega
    · rcases hat i o e with ⟨hni, hi, e'⟩ | ⟨k, o', hk, rfl, e', rfl⟩
      · rcases hJb i o hni e' with rfl | ⟨_, h2, _⟩
        · trivial
        · exact h2
      · exact mp_obj hmp hk (hJo k o' e')
    · rcases hat i o e with ⟨hni, hi, e'⟩ | ⟨k, o', hk, rfl, e', rfl⟩
      · rcases hJb i o hni e' with rfl | ⟨h1, _, h3⟩
        · cases hl
        · rw [hasOld i b hi] at hb
          have := hrel.st.freshH i o b h1 hl hb
          exact ⟨this.1, h3 b hl hb, Nat.lt_of_lt_of_le this.2.2 hsame.size⟩
      · rw [hmp.has hk] at hb
        rw [mp_live] at hl
        have := hst.freshH k o' b e' hl hb
        exact ⟨hFw b this.1, hJn k o' b e' hl hb, this.2.2⟩
    · rcases hat i o e with ⟨hni, hi, f1⟩ | ⟨k, o1, hk, rfl, f1, rfl⟩ <;> rcases hat i' o' e' with ⟨hni', hi', f2⟩ | ⟨k', o2, hk', rfl, f2, rfl⟩
      · rcases hJb i o hni f1 with rfl | ⟨h1, _, _⟩
        · cases hl
        · rcases hJb i' o' hni' f2 with rfl | ⟨h1', _, _⟩
          · cases hl'
          · rw [hasOld i b hi] at hb
            rw [hasOld i' b hi'] at hb'
            exact hrel.st.injH i i' o o' b h1 h1' hl hl' hb hb'
      · rcases hJb i o hni f1 with rfl | ⟨h1, _, _⟩
        · cases hl
        · rw [hasOld i b hi] at hb
          rw [hmp.has hk'] at hb'
          rw [mp_live] at hl'
          exact absurd (hF' k' o2 b f2 hl' hb') (hoth i o b hni h1 hl hb)
      · rcases hJb i' o' hni' f2 with rfl | ⟨h1, _, _⟩
        · cases hl'
        · rw [hasOld i' b hi'] at hb'
          rw [hmp.has hk] at hb
          rw [mp_live] at hl
          exact absurd (hF' k o1 b f1 hl hb) (hoth i' o' b hni' h1 hl' hb')
      · rw [hmp.has hk] at hb
        rw [hmp.has hk'] at hb'
        rw [mp_live] at hl hl'
        rw [hst.injH k k' o1 o2 b f1 f2 hl hl' hb hb']
  by_cases hsc : (r.scal && obs'.all OB.scal) = true
  · have hsc' := hsc
    simp only [Bool.and_eq_true] at hsc'
    refine ⟨ν, I, hK, ?_⟩
    unfold retM
    rw [if_pos hsc]
    refine fin S.obs I rfl (fun _ h => h) (fun b hb => Nat.lt_of_lt_of_le (hrel.st.imm b hb) hsame.size) hrel.i2 (fun k o b e hl hb hI => (hst.freshH k o b e hl hb).2.1 (hI1 b (.inl hI))) (fun k o e => scal_obj (List.all_eq_true.1 hsc'.2 o (List.mem_of_getElem? e)) (hst.obj k o e)) (fun i o hni e => ?_) (scal_den hsc'.1 hden)
    refine .inr ⟨e, ?_, fun b hl hb => (hrel.st.freshH i o b e hl hb).2.1⟩
    by_cases hl : o.live = true
    · exact (hrel.st.obj i o e).mono hleν (by rw [hcnt]; exact (List.getElem?_eq_some_iff.1 e).1) hkeepI (fun _ h => h) fun b hb => hsame.block b (hrel.st.freshH i o b e hl hb).2.2 (hoth i o b hni e hl hb)
    · cases o with
      | dead => trivial
      | box => exact absurd rfl hl
      | row => exact absurd rfl hl
      | arr => exact absurd rfl hl
      | keys => exact absurd rfl hl
      | bld => exact absurd rfl hl
      | grid => exact absurd rfl hl
  · refine ⟨ν, I', hK, ?_⟩
    unfold retM
    rw [if_neg hsc]
    refine fin (killL S.obs (fzM S.obs ids as)) I' (by rw [killL_len]) (fun b hb => hI1 b (.inl hb)) hst.imm (fun b hb => ?_) (fun k o b e hl hb => (hst.freshH k o b e hl hb).2.1) hst.obj (fun i o hni e => ?_) hden
    · rcases hI2 b hb with hb | hb
      · exact hkill.i2 b hb
      · exact .inr (hFw b hb)
    · rw [killL_get] at e
      by_cases hfz : i ∈ fzM S.obs ids as
      · rw [if_pos hfz, Option.map_eq_some_iff] at e
        obtain ⟨_, _, e⟩ := e
        exact .inl e.symm
      · rw [if_neg hfz] at e
        have e2 : (killL S.obs (fzM S.obs ids as))[i]? = some o := by rw [killL_get, if_neg hfz]; exact e
        refine .inr ⟨e, ?_, fun b hl hb hI => ?_⟩
        · by_cases hl : o.live = true
          · exact (hkill.st.obj i o e2).mono hleν (by rw [hcnt]; exact (List.getElem?_eq_some_iff.1 e).1) hkeepJ hI1 fun b hb => hsame.block b (hrel.st.freshH i o b e hl hb).2.2 (hoth i o b hni e hl hb)
          · cases o with
            | dead => trivial
            | box => exact absurd rfl hl
            | row => exact absurd rfl hl
            | arr => exact absurd rfl hl
            | keys => exact absurd rfl hl
            | bld => exact absurd rfl hl
            | grid => exact absurd rfl hl
        · rcases hI2 b hI with hI | hI
          · exact (hkill.st.freshH i o b e2 hl hb).2.1 hI
          · exact hoth i o b hni e hl hb hI

theorem dropS {P : Program} {f : FuncId} {args : Array Value} {w : World} {C : Prop} {A : Value → World → Prop} (h : C ∧ Calls P f args w fun e w' => ∃ u, e = .returned u ∧ Same w w' ∧ A u w') : C ∧ Calls P f args w fun e w' => ∃ u, e = .returned u ∧ A u w' :=
  ⟨h.1, h.2.mono fun _ _ ⟨u, h1, _, h2⟩ => ⟨u, h1, h2⟩⟩
theorem callC_sound {P : Program} {w0 : Env} {w : World} {I0 I : Nat → Prop} {S : AS} {σ : Asg} {tm : Array Value} {f : FuncId} {as : List AV} {us : List Value} {dst : Option Tmp} {K : AS → Prop}
    (hrel : Rel w0 I0 S σ I tm w) (hd : DenL σ I w as us) (hdst : ∀ t, dst = some t → t < tm.size) (h : callC P S f as dst K) :
    Callable P f ∧ Calls P f us.toArray w fun e w' => ∃ u, e = .returned u ∧ Same w w' ∧ ∃ S' σ' I', K S' ∧ Rel w0 I0 S' σ' I' (putT tm dst u) w' := by
  rw [callC, forceAL_eq] at h
  cases h with
  | mk fn => exact callF_sound hrel hd hdst fn
  | tb t ht fn => exact callT_sound ht hrel hd hdst fn
  | pre iz fn => exact callF_sound (hrel.frz iz) (frzA_denL hrel.st iz hd) hdst fn
theorem callE_sound {P : Program} {w0 : Env} {w : World} {I0 I : Nat → Prop} {S : AS} {σ : Asg} {tm : Array Value} {f : FuncId} {as : List AV} {us : List Value} {dst : Option Tmp} {K : AS → Prop}
    (hrel : Rel w0 I0 S σ I tm w) (hd : DenL σ I w as us) (hdst : ∀ t, dst = some t → t < tm.size) (h : callE P S f as dst K) :
    Callable P f ∧ Calls P f us.toArray w fun e w' => ∃ u, e = .returned u ∧ ∃ S' σ' I', K S' ∧ Rel w0 I0 S' σ' I' (putT tm dst u) w' := by
  rw [callE, forceAL_eq] at h
  cases h with
  | mk fn => exact dropS (callF_sound hrel hd hdst fn)
  | tb t ht fn => exact dropS (callT_sound ht hrel hd hdst fn)
  | tb2 t t2 ht ht2 fn => exact dropS (callT2_sound ht ht2 hrel hd hdst fn)
  | wr ids hok fn => exact callM_sound hrel hd hdst hok fn
  | pre iz fn => exact dropS (callF_sound (hrel.frz iz) (frzA_denL hrel.st iz hd) hdst fn)
  | preW iz ids hok fn => exact callM_sound (hrel.frz iz) (frzA_denL hrel.st iz hd) hdst hok fn

/-- an object that says no less -/
def OLe (o' o : OB) : Prop := o'.live = o.live ∧ ∀ (σ : Asg) (I : Nat → Prop) (w : World) (i : Nat), ObjRel σ I w i o' → ObjRel σ I w i o
def OLeL : List OB → List OB → Prop
  | [], [] => True
  | a :: r, b :: s => OLe a b ∧ OLeL r s
  | _, _ => False
theorem OLe.refl (o : OB) : OLe o o := ⟨rfl, fun _ _ _ _ h => h⟩
theorem OLe.row {e sz n : Nat} {sc sc' : Bool} {f g : Nat → Nat → L} (h : ∀ k, k < n → ∀ j, j < sz → f k j = g k j) (hs : sc' = true → ∀ k j, (g k j).scal = true) : OLe (.row e sz n sc f) (.row e sz n sc' g) := by
  refine ⟨rfl, fun σ I w i hr => ⟨?_, hs⟩⟩
  rcases hr.1 with h0 | ⟨h0, xs, h1, h2, h3⟩
  · exact .inl h0
  · exact .inr ⟨h0, xs, h1, h2, fun k hk j hj => by rw [← h k hk j hj]; exact h3 k hk j hj⟩
theorem OLeL.get : ∀ {os' os : List OB}, OLeL os' os → os'.length = os.length ∧ (∀ (i : Nat) o, os[i]? = some o → ∃ o', os'[i]? = some o' ∧ OLe o' o) ∧ ∀ (i : Nat) o', os'[i]? = some o' → ∃ o, os[i]? = some o ∧ OLe o' o
  | [], [], _ => ⟨rfl, fun i o e => by simp at e, fun i o e => by simp at e⟩
  | a :: r, b :: s, h => by
    obtain ⟨g1, g2, g3⟩ := OLeL.get h.2
    refine ⟨by simp [g1], fun i o e => ?_, fun i o e => ?_⟩
    · cases i with
      | zero => simp at e; subst e; exact ⟨a, rfl, h.1⟩
      | succ i => simpa using g2 i o (by simpa using e)
    · cases i with
      | zero => simp at e; subst e; exact ⟨b, rfl, h.1⟩
      | succ i => simpa using g3 i o (by simpa using e)
  | [], _ :: _, h => h.elim
  | _ :: _, [], h => h.elim

theorem FnM.leO {P : Program} {f : FuncId} {os' os : List OB} {args : List AV} {K : List OB → AV → Prop} (h : FnM P f os args K) (ho : OLeL os' os) : FnM P f os' args K := by
  refine ⟨h.1, fun w I σ0 vs hs hd => ?_⟩
  obtain ⟨g1, g2, g3⟩ := ho.get
  have hF : ownF w σ0 os = ownF w σ0 os' := by
    funext b
    apply propext
    constructor
    · rintro (hb | ⟨i, o, e, hl, hb⟩)
      · exact .inl hb
      · obtain ⟨o', e', hle⟩ := g2 i o e
        exact .inr ⟨i, o', e', hle.1.trans hl, hb⟩
    · rintro (hb | ⟨i, o, e, hl, hb⟩)
      · exact .inl hb
      · obtain ⟨o', e', hle⟩ := g3 i o e
        exact .inr ⟨i, o', e', hle.1.symm.trans hl, hb⟩
  rw [← hF] at hs ⊢
  refine h.2 w I σ0 vs ⟨hs.cnt.trans g1, hs.imm, fun i o e => ?_, fun i o b e hl hb => ?_, fun i j oi oj b ei ej li lj hb hb' => ?_⟩ hd
  · obtain ⟨o', e', hle⟩ := g2 i o e
    exact hle.2 _ _ _ _ (hs.obj i o' e')
  · obtain ⟨o', e', hle⟩ := g2 i o e
    exact hs.freshH i o' b e' (hle.1.trans hl) hb
  · obtain ⟨o1, e1, h1⟩ := g2 i oi ei
    obtain ⟨o2, e2, h2⟩ := g2 j oj ej
    exact hs.injH i j o1 o2 b e1 e2 (h1.1.trans li) (h2.1.trans lj) hb hb'

end Go.Proofs.YtjfnhehjhicnoaaDoor
