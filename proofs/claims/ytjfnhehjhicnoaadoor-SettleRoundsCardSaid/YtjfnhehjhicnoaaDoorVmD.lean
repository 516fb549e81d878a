/-
  Each pure operation of the machine is the model's own.
-/
import Derived.Test.YtjfnhehjhicnoaaDoorVmC
import Derived.Test.YtjfnhehjhicnoaaDoorVmE
namespace Go.Proofs.YtjfnhehjhicnoaaDoor
open Go.RowKit

section
variable {P : Program} {T : Tab} {σ : Asg} {I : Nat → Prop} {w : World} {B : Nat → Prop} {obs : List OB}

theorem zeroCs_sound {x : TE} (h : ∀ u ∈ x.zero.cells.toList, u.oneCell' = true) : DenL σ I w (zeroCs x) x.zero.cells.toList := by
  unfold zeroCs
  generalize x.zero.cells.toList = l at h
  induction l with
  | nil => simp [DenL]
  | cons u l ih =>
    simp only [List.map_cons, DenL]
    exact ⟨u, l, rfl, by simp only [Den, L.rd]; exact ⟨trivial, h u (by simp)⟩, ih fun v hv => h v (by simp [hv])⟩

theorem mapM_fields {P : Program} {T : Tab} (hT : TabOk P T) (w' : World) : ∀ (l : List Field), (∀ f ∈ l, ∃ x, tget T f.type = some x) →
    (l.mapM (fun f => (do pure (f.offset, ← sizeOf f.type) : Sem (Nat × Nat)))).run P w' = .ok (l.map fun f => (f.offset, ((tget T f.type).map (·.size)).getD 0)) w'
  | [], _ => rfl
  | f :: l, h => by
    obtain ⟨x, hx⟩ := h f (by simp)
    have h1 := mapM_fields hT w' l fun g hg => h g (by simp [hg])
    simp only [List.mapM_cons, Sem.run_bind, run_sizeOf' (hT _ x hx), Result.andThen_ok, Sem.run_pure, h1, List.map_cons, hx, Option.map_some, Option.getD_some]

theorem buildP_sound (hT : TabOk P T) {t : TypeId} {parts : List (Nat × AV)} {us : List (Nat × Value)} {r : AV} {p : Sd} (he : us.map (·.1) = parts.map (·.1))
    (hu : ∀ (j : Nat) q, parts[j]? = some q → ∃ u, (us.map (·.2))[j]? = some u ∧ Den σ I w q.2 u)
    (h : buildP T t parts = some (p, r)) (hp : p.ok) :
    ∃ u, (∀ w' : World, (Instr.build t us.toArray).run P w' = .ok u w') ∧ Den σ I w r u := by
  unfold buildP at h
  split at h
  · rename_i x hx
    split at h
    · rename_i fs htd
      split at h
      case isFalse => cases h
      rename_i hall
      split at h
      · rename_i cs hf
        injection h with h; injection h with e1 e2; subst e1 e2
        have hp : ∀ u ∈ x.zero.cells.toList, u.oneCell' = true := by
          split at hp
          · rename_i hall'; exact fun u hu => List.all_eq_true.1 hall' u hu
          · exact hp.elim
        have hok := hT t x hx
        obtain ⟨d, ti, h1, h2, _⟩ := hok.get
        have hF : ∃ F, d = .struct F ∧ F.toList.map (fun f => (f.offset, f.type)) = fs := by
          rw [htd] at h2
          cases d <;> simp [TD.of] at h2
          exact ⟨_, rfl, h2⟩
        obtain ⟨F, rfl, hF⟩ := hF
        have hin' : ∀ f ∈ F.toList, ∃ x, tget T f.type = some x := fun f hfm => by
          rw [List.all_eq_true] at hall
          exact Option.isSome_iff_exists.1 (hall (f.offset, f.type) (by rw [← hF]; exact List.mem_map.2 ⟨f, hfm, rfl⟩))
        have hplw : ∀ w' : World, (F.mapM (fun f => (do pure (f.offset, ← sizeOf f.type) : Sem (Nat × Nat)))).run P w' = .ok (F.toList.map fun f => (f.offset, ((tget T f.type).map (·.size)).getD 0)).toArray w' := fun w' => by
          rw [Array.mapM_eq_mapM_toList, Sem.run_map, mapM_fields hT w' F.toList hin']
          rfl
        obtain ⟨ur, k1, k2, k3⟩ := fillP_sound (σ := σ) (I := I) (w := w) hT (fs := fs) ((F.toList.map fun f => (f.offset, ((tget T f.type).map (·.size)).getD 0)).toArray[·]?) (fun i off ft x e1 e2 => by
          rw [← hF] at e1
          simp only [List.getElem?_map, Option.map_eq_some_iff] at e1
          obtain ⟨f, g1, g2⟩ := e1
          injection g2 with g2 g3
          subst g2 g3
          simp only [Array.getElem?_toList] at g1
          simp [g1, e2]) he hu (zeroCs_sound hp) hp hf
        refine ⟨.agg ur.toArray, fun w' => ?_, by simp only [Den]; exact ⟨ur, rfl, k2, k3⟩⟩
        simp only [Array.toArray_toList] at k1
        simp only [Instr.build, Sem.run_bind, run_zero hok, Result.andThen_ok, run_underlying h1, hplw, k1, Sem.run_pure]
      · cases h
    · rename_i n e htd
      split at h
      · rename_i te hte
        split at h
        · rename_i cs hf
          injection h with h; injection h with e1 e2; subst e1 e2
          have hp : ∀ u ∈ x.zero.cells.toList, u.oneCell' = true := by
            split at hp
            · rename_i hall'; exact fun u hu => List.all_eq_true.1 hall' u hu
            · exact hp.elim
          have hok := hT t x hx
          obtain ⟨d, ti, h1, h2, _⟩ := hok.get
          have hd : d = .array n e := by
            rw [htd] at h2
            cases d <;> simp [TD.of] at h2
            rw [h2.1, h2.2]
          subst hd
          obtain ⟨ur, k1, k2, k3⟩ := fillP_sound (σ := σ) (I := I) (w := w) hT (fs := (List.range n).map fun i => (i * te.size, e)) (fun i => some (i * te.size, te.size)) (fun i off ft x' e1 e2 => by
            simp only [List.getElem?_map, Option.map_eq_some_iff] at e1
            obtain ⟨i', g1, g2⟩ := e1
            injection g2 with g2 g3
            subst g3
            rw [hte] at e2; injection e2 with e2; subst e2
            have : i' = i := by
              rw [List.getElem?_range (by have := (List.getElem?_eq_some_iff.1 g1).1; simpa using this)] at g1
              injection g1 with g1; exact g1.symm
            rw [← g2, this]) he hu (zeroCs_sound hp) hp hf
          refine ⟨.agg ur.toArray, fun w' => ?_, by simp only [Den]; exact ⟨ur, rfl, k2, k3⟩⟩
          simp only [Array.toArray_toList] at k1
          simp only [Instr.build, Sem.run_bind, run_zero hok, Result.andThen_ok, run_underlying h1, run_sizeOf' (hT e te hte), k1, Sem.run_pure]
        · cases h
      · cases h
    · cases h
  · cases h

theorem partP_sound (hT : TabOk P T) {s : TypeId} {fld : Nat} {a r : AV} {p : Sd} {ua : Value} (ha : Den σ I w a ua) (h : partP T s fld a = some (p, r)) (hp : p.ok) :
    ∃ u, (∀ w' : World, (Instr.field s ua fld).run P w' = .ok u w') ∧ Den σ I w r u := by
  unfold partP at h
  split at h
  · rename_i fs _ _ _ _ hx
    obtain ⟨d, ti, h1, h2, _⟩ := (hT s _ hx).get
    have hF : ∃ F, d = .struct F ∧ F.toList.map (fun f => (f.offset, f.type)) = fs := by
      cases d <;> simp [TD.of] at h2
      exact ⟨_, rfl, h2⟩
    obtain ⟨F, rfl, hF⟩ := hF
    split at h
    · rename_i off ft hf
      have hg : ∃ f : Field, F[fld]? = some f ∧ f.offset = off ∧ f.type = ft := by
        rw [← hF] at hf
        simp only [List.getElem?_map, Option.map_eq_some_iff] at hf
        obtain ⟨f, e1, e2⟩ := hf
        injection e2 with e2 e3
        exact ⟨f, by simpa using e1, e2, e3⟩
      obtain ⟨f, e1, rfl, rfl⟩ := hg
      split at h
      · rename_i x cs hft
        have hft' := hT f.type x hft
        simp only [Den] at ha
        obtain ⟨us, rfl, hd, h1c⟩ := ha
        have hlen := hd.len
        split at h
        · rename_i hagg
          injection h with h; injection h with e2 e3; subst e2 e3
          have hp := sdLe_spec hp
          refine ⟨.agg (us.toArray.extract f.offset (f.offset + x.size)), fun w' => ?_, ?_⟩
          · simp [Instr.field, run_underlying h1, e1, asAgg, part, run_isAgg hft', hagg, run_sizeOf' hft']
          · simp only [Den]
            refine ⟨(us.drop f.offset).take x.size, ?_, (hd.drop _).take _, fun v hv => h1c v (List.mem_of_mem_drop (List.mem_of_mem_take hv))⟩
            simp [List.take_drop]
        · rename_i hagg
          injection h with h; injection h with e2 e3; subst e2 e3
          have hp := sdLt_spec hp
          obtain ⟨u, g1, g2⟩ := hd.get f.offset cs[f.offset] (List.getElem?_eq_getElem hp)
          refine ⟨u, fun w' => ?_, by rw [List.getElem?_eq_getElem hp]; exact g2⟩
          have hagg' : x.td.agg = false := by simpa using hagg
          simp [Instr.field, run_underlying h1, e1, asAgg, part, run_isAgg hft', hagg', g1]
      · cases h
    · cases h
  · cases h

theorem toCs_den : ∀ {as : List AV} {xs us : List Value}, toCs as = some xs → DenL σ I w as us → us = xs
  | [], xs, us, h, hd => by simp only [toCs] at h; injection h with h; subst h; simpa [DenL] using hd
  | .c (.v x) :: r, xs, us, h, hd => by
    simp only [toCs, Option.map_eq_some_iff] at h
    obtain ⟨l, hl, rfl⟩ := h
    simp only [DenL] at hd
    obtain ⟨u, us', rfl, h1, h2⟩ := hd
    simp only [Den, L.rd] at h1
    rw [h1.1, toCs_den hl h2]
  | .c .un :: r, xs, us, h, hd => by simp [toCs] at h
  | .c (.sl ..) :: r, xs, us, h, hd => by simp [toCs] at h
  | .top :: r, xs, us, h, hd => by simp [toCs] at h
  | .agg _ :: r, xs, us, h, hd => by simp [toCs] at h
  | .tup _ :: r, xs, us, h, hd => by simp [toCs] at h
  | .xp .. :: r, xs, us, h, hd => by simp [toCs] at h
  | .lp .. :: r, xs, us, h, hd => by simp [toCs] at h
  | .rp .. :: r, xs, us, h, hd => by simp [toCs] at h
  | .own _ :: r, xs, us, h, hd => by simp [toCs] at h
  | .fn .. :: r, xs, us, h, hd => by simp [toCs] at h
  | .gd .. :: r, xs, us, h, hd => by simp [toCs] at h
  | .ov .. :: r, xs, us, h, hd => by simp [toCs] at h
  | .cp .. :: r, xs, us, h, hd => by simp [toCs] at h
  | .gh _ :: r, xs, us, h, hd => by simp [toCs] at h
  | .av .. :: r, xs, us, h, hd => by simp [toCs] at h
  | .gt .. :: r, xs, us, h, hd => by simp [toCs] at h
  | .sb .. :: r, xs, us, h, hd => by simp [toCs] at h
  | .gr .. :: r, xs, us, h, hd => by simp [toCs] at h
  | .gp .. :: r, xs, us, h, hd => by simp [toCs] at h

theorem eqP_sound (hT : TabOk P T) {op : BinOp} {t : TypeId} {a b r : AV} {p : Sd} {ua ub : Value} (ha : Den σ I w a ua) (hb : Den σ I w b ub) (h : eqP T op t a b = some (p, r)) :
    ∃ v, (∀ (x y : Operand) (w' : World), (do eqGuard op t x y ua ub; binOp op t ua ub).run P w' = .ok v w') ∧ Den σ I w r v := by
  unfold eqP at h
  split at h
  · rename_i te hte
    have hok := hT t te hte
    split at h
    · rename_i hc
      have hcmp := hok.cmp
      rw [hc] at hcmp
      split at h
      · rename_i p' q'
        simp only [Den, L.rd] at ha hb
        obtain ⟨rfl, _⟩ := ha
        obtain ⟨rfl, _⟩ := hb
        split at h
        · injection h with h; injection h with _ h; subst h
          exact ⟨_, fun x y w' => (run_eqBool hcmp p' q' x y w').1, by simp only [boolV, Den, L.rd]; exact ⟨trivial, rfl⟩⟩
        · injection h with h; injection h with _ h; subst h
          exact ⟨_, fun x y w' => (run_eqBool hcmp p' q' x y w').2, by simp only [boolV, Den, L.rd]; exact ⟨trivial, rfl⟩⟩
        · cases h
      · cases h
    · rename_i ks hc
      have hcmp := hok.cmp
      rw [hc] at hcmp
      split at h
      · rename_i as bs
        simp only [Den] at ha hb
        obtain ⟨us, rfl, h1, _⟩ := ha
        obtain ⟨vs, rfl, h2, _⟩ := hb
        split at h
        · rename_i r' hr
          unfold eqCells at hr
          split at hr
          · rename_i xs ys hx hy
            have e1 := toCs_den hx h1
            have e2 := toCs_den hy h2
            subst e1 e2
            split at h
            · injection h with h; injection h with _ h; subst h
              exact ⟨_, fun x y w' => (run_eqStruct hcmp hr x y w').1, by simp only [boolV, Den, L.rd]; exact ⟨trivial, rfl⟩⟩
            · injection h with h; injection h with _ h; subst h
              exact ⟨_, fun x y w' => (run_eqStruct hcmp hr x y w').2, by simp only [boolV, Den, L.rd]; exact ⟨trivial, rfl⟩⟩
            · cases h
          · cases hr
        · cases h
      · cases h
    · rename_i n k hc
      have hcmp := hok.cmp
      rw [hc] at hcmp
      split at h
      · rename_i as bs
        simp only [Den] at ha hb
        obtain ⟨us, rfl, h1, _⟩ := ha
        obtain ⟨vs, rfl, h2, _⟩ := hb
        split at h
        · rename_i r' hr
          unfold eqCells at hr
          split at hr
          · rename_i xs ys hx hy
            have e1 := toCs_den hx h1
            have e2 := toCs_den hy h2
            subst e1 e2
            split at h
            · injection h with h; injection h with _ h; subst h
              exact ⟨_, fun x y w' => (run_eqArr hcmp hr x y w').1, by simp only [boolV, Den, L.rd]; exact ⟨trivial, rfl⟩⟩
            · injection h with h; injection h with _ h; subst h
              exact ⟨_, fun x y w' => (run_eqArr hcmp hr x y w').2, by simp only [boolV, Den, L.rd]; exact ⟨trivial, rfl⟩⟩
            · cases h
          · cases hr
        · cases h
      · cases h
    · cases h
    · cases h
  · cases h

theorem ptrP_sound (hT : TabOk P T) {op : BinOp} {t : TypeId} {a : Option Addr} {n : Bool} (hn : a.isNone = n) {r : AV} {p : Sd} (h : ptrP T t n op = some (p, r)) :
    ∃ v, (∀ (x y : Operand) (w' : World), (do eqGuard op t x y (.pointer a) (.pointer none); binOp op t (.pointer a) (.pointer none)).run P w' = .ok v w') ∧ Den σ I w r v := by
  subst hn
  unfold ptrP at h
  split at h
  · split at h
    · rename_i te hte
      split at h
      · rename_i hc
        have hcmp := (hT t te hte).cmp
        rw [hc] at hcmp
        injection h with h; injection h with _ h; subst h
        exact ⟨.bool a.isNone, fun x y w' => (run_eqPtr hcmp a x y w').1, by simp only [boolV, Den, L.rd]; exact ⟨trivial, rfl⟩⟩
      · cases h
    · cases h
  · split at h
    · rename_i te hte
      split at h
      · rename_i hc
        have hcmp := (hT t te hte).cmp
        rw [hc] at hcmp
        injection h with h; injection h with _ h; subst h
        exact ⟨.bool !a.isNone, fun x y w' => (run_eqPtr hcmp a x y w').2, by simp only [boolV, Den, L.rd]; exact ⟨trivial, rfl⟩⟩
      · cases h
    · cases h
  · cases h

theorem convP_sound (hT : TabOk P T) {src dst : TypeId} {a r : AV} {p : Sd} {ua : Value} (ha : Den σ I w a ua) (h : convP T src dst a = some (p, r)) :
    ∃ u, (∀ w' : World, (convert src dst ua).run P w' = .ok u w') ∧ Den σ I w r u := by
  unfold convP at h
  split at h
  · rename_i x k _ _ _ _ kd n h1 h2
    injection h with h; injection h with _ e2; subst e2
    obtain ⟨d, ti, g1, g2, _⟩ := (hT src _ h1).get
    obtain ⟨d', ti', g1', g2', _⟩ := (hT dst _ h2).get
    have hd : d' = .int k := by cases d' <;> simp [TD.of] at g2'; rw [g2']
    subst hd
    simp only [Den, L.rd] at ha
    obtain ⟨rfl, _⟩ := ha
    refine ⟨_, fun w' => ?_, by simp only [Den, L.rd]; exact ⟨rfl, rfl⟩⟩
    simp [convert, run_underlying g1, run_underlying g1', Conv.intToInt]
  · rename_i _ _ _ _ _ _ s h1 h2
    injection h with h; injection h with _ e2; subst e2
    obtain ⟨d, ti, g1, g2, _⟩ := (hT src _ h1).get
    obtain ⟨d', ti', g1', g2', _⟩ := (hT dst _ h2).get
    have hd : d' = .string := by cases d' <;> simp [TD.of] at g2'; rfl
    subst hd
    simp only [Den, L.rd] at ha
    obtain ⟨rfl, _⟩ := ha
    refine ⟨.string s, fun w' => ?_, by simp only [strV, Den, L.rd]; exact ⟨trivial, rfl⟩⟩
    simp [convert, run_underlying g1, run_underlying g1']
  · cases h

theorem pickP_sound {x y : Operand} {p : Bool} {a b r : AV} {s : Sd} {ux uy : Value} (ha : Den σ I w a ux) (hb : Den σ I w b uy) (hx : ∀ v, x = .const v → ux = v) (hy : ∀ v, y = .const v → uy = v)
    (h : pickP x y p a b = some (s, r)) (hs : s.ok) : Den σ I w r (if p then ux else uy) := by
  unfold pickP at h
  split at h
  · obtain rfl := hy _ rfl
    split at h
    · injection h with h; injection h with _ e2; subst e2
      simp only [Den, L.rd] at ha
      obtain ⟨rfl, _⟩ := ha
      cases p <;> simp [boolV, Den, L.rd, Value.oneCell']
    · injection h with h; injection h with e1 e2; subst e1 e2
      simp only [Den, L.rd] at ha
      cases p with
      | false => simp [boolV, Den, L.rd, Value.oneCell']
      | true =>
        obtain ⟨rfl, _⟩ := ha.1 (hs rfl)
        simp [boolV, Den, L.rd, Value.oneCell']
    · injection h with h; injection h with e1 e2; subst e1 e2
      have hs : p = false := hs
      subst hs
      simp [boolV, Den, L.rd, Value.oneCell']
    · cases h
  · split at h
    · obtain rfl := hx _ rfl
      split at h
      · injection h with h; injection h with _ e2; subst e2
        simp only [Den, L.rd] at hb
        obtain ⟨rfl, _⟩ := hb
        cases p <;> simp [boolV, Den, L.rd, Value.oneCell']
      · injection h with h; injection h with e1 e2; subst e1 e2
        simp only [Den, L.rd] at hb
        cases p with
        | true => simp [boolV, Den, L.rd, Value.oneCell']
        | false =>
          obtain ⟨rfl, _⟩ := hb.1 (hs rfl)
          simp [boolV, Den, L.rd, Value.oneCell']
      · injection h with h; injection h with e1 e2; subst e1 e2
        have hs : p = true := hs
        subst hs
        simp [boolV, Den, L.rd, Value.oneCell']
      · cases h
    · cases h

theorem lenP_sound (hT : TabOk P T) (hS : Store σ I w B obs) {t : TypeId} {e : TypeId} {x : TE} (hx : tget T t = some x) (htd : x.td = .slice e) {a r : AV} {s : Sd} {ua : Value} (ha : Den σ I w a ua)
    (hns : ∀ s, a ≠ .c (.v (.string s))) (h : lenP obs a = some (s, r)) : ∃ u, (∀ (w' : World) (ty : TypeId), (Builtin.len_ #[t] ty #[ua]).run P w' = .ok u w') ∧ Den σ I w r u := by
  obtain ⟨d, ti, h1, h2, _⟩ := (hT t _ hx).get
  rw [htd] at h2
  have hd : d = .slice e := by cases d <;> simp [TD.of] at h2; rw [h2]
  subst hd
  unfold lenP at h
  split at h
  · exact absurd rfl (hns _)
  · injection h with h; injection h with _ e2; subst e2
    simp only [Den, L.rd] at ha
    obtain ⟨A, cap, rfl, _⟩ := ha
    exact ⟨_, fun w' ty => by simp [Builtin.len_, run_underlying h1]; rfl, by simp only [intV, Den, L.rd, goInt]; exact ⟨trivial, rfl⟩⟩
  · injection h with h; injection h with _ e2; subst e2
    simp only [Den, L.rd] at ha
    obtain ⟨rfl, _⟩ := ha
    exact ⟨_, fun w' ty => by simp [Builtin.len_, run_underlying h1]; rfl, by simp only [intV, Den, L.rd, goInt]; exact ⟨trivial, rfl⟩⟩
  · rename_i i
    split at h
    · rename_i e' sz n sc f ho
      injection h with h; injection h with _ e2; subst e2
      simp only [Den] at ha
      obtain ⟨_, rfl, _⟩ := ha
      obtain ⟨A, cap, hh, _⟩ := (hS.obj i _ ho).1.len
      rw [hh]
      exact ⟨_, fun w' ty => by simp [Builtin.len_, run_underlying h1]; rfl, by simp only [intV, Den, L.rd, goInt]; exact ⟨trivial, rfl⟩⟩
    · cases h
  · injection h with h; injection h with _ e2; subst e2
    simp only [Den] at ha
    obtain ⟨_, A, cap, rfl, _⟩ := ha
    exact ⟨_, fun w' ty => by simp [Builtin.len_, run_underlying h1]; rfl, by simp only [intV, Den, L.rd, goInt]; exact ⟨trivial, rfl⟩⟩
  · injection h with h; injection h with _ e2; subst e2
    simp only [Den] at ha
    obtain ⟨_, A, rfl⟩ := ha
    exact ⟨_, fun w' ty => by simp [Builtin.len_, run_underlying h1]; rfl, by simp only [intV, Den, L.rd, goInt]; exact ⟨trivial, rfl⟩⟩
  · injection h with h; injection h with _ e2; subst e2
    simp only [Den] at ha
    obtain ⟨_, b, _, rfl, _⟩ := ha
    exact ⟨_, fun w' ty => by simp [Builtin.len_, run_underlying h1]; rfl, by simp only [intV, Den, L.rd, goInt]; exact ⟨trivial, rfl⟩⟩
  · injection h with h; injection h with _ e2; subst e2
    simp only [Den] at ha
    obtain ⟨_, b, cap, _, rfl, _⟩ := ha
    exact ⟨_, fun w' ty => by simp [Builtin.len_, run_underlying h1]; rfl, by simp only [intV, Den, L.rd, goInt]; exact ⟨trivial, rfl⟩⟩
  · cases h

theorem map_arr {α β : Type} (f : α → β) (xs : Array α) : xs.map f = (xs.toList.map f).toArray := by
  apply Array.toList_inj.1
  simp

theorem DenL.mapρ {ρ : Operand → AV} {ρv : Operand → Value} : ∀ {xs : List Operand}, (∀ x ∈ xs, Den σ I w (ρ x) (ρv x)) → DenL σ I w (xs.map ρ) (xs.map ρv)
  | [], _ => by simp [DenL]
  | x :: xs, h => by
    simp only [List.map_cons, DenL]
    exact ⟨_, _, rfl, h x (by simp), DenL.mapρ fun y hy => h y (by simp [hy])⟩

theorem minP_sound {as : List AV} {us : List Value} {n : Int} (hd : DenL σ I w as us) (h : minP as = some n) (ts : Array TypeId) (ty : TypeId) (w' : World) : (Builtin.min_ ts ty us.toArray).run P w' = .ok (.int .i64 n) w' := by
  unfold minP at h
  split at h
  · rename_i x r
    simp only [DenL] at hd
    obtain ⟨u, us', rfl, h1, h2⟩ := hd
    simp only [Den, L.rd] at h1
    obtain ⟨rfl, _⟩ := h1
    exact minG_sound h2 h w'
  · cases h
theorem maxP_sound {as : List AV} {us : List Value} {n : Int} (hd : DenL σ I w as us) (h : maxP as = some n) (ts : Array TypeId) (ty : TypeId) (w' : World) : (Builtin.max_ ts ty us.toArray).run P w' = .ok (.int .i64 n) w' := by
  unfold maxP at h
  split at h
  · rename_i x r
    simp only [DenL] at hd
    obtain ⟨u, us', rfl, h1, h2⟩ := hd
    simp only [Den, L.rd] at h1
    obtain ⟨rfl, _⟩ := h1
    exact maxG_sound h2 h w'
  · cases h

theorem den_int {n : Int} : Den σ I w (intV n) (.int .i64 n) := by simp only [intV, Den, L.rd]; exact ⟨trivial, rfl⟩
theorem den_bool {b : Bool} : Den σ I w (boolV b) (.bool b) := by simp only [boolV, Den, L.rd]; exact ⟨trivial, rfl⟩

set_option maxHeartbeats 1000000 in
theorem pv_sound (G : FuncId → Bool) (hT : TabOk P T) (hS : Store σ I w B obs) {ρ : Operand → AV} {ρv : Operand → Value} {o : Oper} {r : AV} {s : Sd} (hρ : ∀ x ∈ o.op.operands.toList, Den σ I w (ρ x) (ρv x))
    (h : pv T obs ρ o.op = some (s, r)) (hs : s.ok) : ∃ u, (∀ w', (clsOf G o.op = .L → Same w w') → (execOp ρv o).run P w' = .ok (.value u) w') ∧ Den σ I w r u := by
  obtain ⟨dst, op, ty, pos, after, guard⟩ := o
  simp only at hρ h
  cases op with
  | move x =>
    simp only [pv] at h; injection h with h; injection h with _ e; subst e
    exact ⟨ρv x, fun w' _ => rfl, hρ x (by simp [Op.operands])⟩
  | assign x =>
    simp only [pv] at h; injection h with h; injection h with _ e; subst e
    exact ⟨ρv x, fun w' _ => rfl, hρ x (by simp [Op.operands])⟩
  | binOp op xt x y yt =>
    simp only [pv] at h
    have hx := hρ x (by simp [Op.operands])
    have hy := hρ y (by simp [Op.operands])
    split at h
    · rename_i p q ea eb
      rw [ea] at hx
      rw [eb] at hy
      obtain ⟨v, g1, g2⟩ := eqP_sound hT hx hy h
      exact ⟨v, fun w' _ => by simp only [execOp]; rw [Sem.run_bind, g1 x y w']; rfl, g2⟩
    iterate 3
      · rename_i ea eb
        rw [ea] at hx
        rw [eb] at hy
        simp only [Den, L.rd] at hy
        obtain ⟨hy, _⟩ := hy
        have hp : ∃ a, ρv x = .pointer (some a) := by
          simp only [Den] at hx
          first
          | (obtain ⟨_, b, _, e⟩ := hx; exact ⟨_, e⟩)
          | (obtain ⟨a, e, _⟩ := hx; exact ⟨_, e⟩)
        obtain ⟨a, e⟩ := hp
        obtain ⟨v, g1, g2⟩ := ptrP_sound (σ := σ) (I := I) (w := w) hT (a := some a) rfl h
        exact ⟨v, fun w' _ => by simp only [execOp, e, hy]; rw [Sem.run_bind, g1 x y w']; rfl, g2⟩
    · rename_i ea eb
      rw [ea] at hx
      rw [eb] at hy
      simp only [Den, L.rd] at hx hy
      obtain ⟨e, _⟩ := hx
      obtain ⟨hy, _⟩ := hy
      obtain ⟨v, g1, g2⟩ := ptrP_sound (σ := σ) (I := I) (w := w) hT (a := none) rfl h
      exact ⟨v, fun w' _ => by simp only [execOp, e, hy]; rw [Sem.run_bind, g1 x y w']; rfl, g2⟩
    · rename_i a b _ _ ea eb
      injection h with h; injection h with e1 e2; subst e1 e2
      rw [ea] at hx
      rw [eb] at hy
      simp only [Den, L.rd] at hx hy
      obtain ⟨hx, _⟩ := hx
      obtain ⟨hy, _⟩ := hy
      refine ⟨binV op a b, fun w' _ => ?_, by simp only [Den, L.rd]; exact ⟨trivial, (run_binS (P := P) hs xt x y w).2⟩⟩
      have := (run_binS (P := P) hs xt x y w').1
      simp only [execOp, hx, hy]
      rw [Sem.run_bind, this]
      rfl
    · rename_i as bs ea eb
      rw [ea] at hx
      rw [eb] at hy
      obtain ⟨v, g1, g2⟩ := eqP_sound hT hx hy h
      exact ⟨v, fun w' _ => by simp only [execOp]; rw [Sem.run_bind, g1 x y w']; rfl, g2⟩
    · cases h
  | unOp op xt x =>
    simp only [pv] at h
    have hx := hρ x (by simp [Op.operands])
    split at h
    · rename_i k n ea
      injection h with h; injection h with _ e2; subst e2
      rw [ea] at hx
      simp only [Den, L.rd] at hx
      obtain ⟨hx, _⟩ := hx
      exact ⟨.int k (k.wrap (0 - n)), fun w' _ => by simp [execOp, hx, Op.unary, Op.intArith], by simp only [Den, L.rd]; exact ⟨trivial, rfl⟩⟩
    · rename_i b ea
      injection h with h; injection h with _ e2; subst e2
      rw [ea] at hx
      simp only [Den, L.rd] at hx
      obtain ⟨hx, _⟩ := hx
      exact ⟨_, fun w' _ => by simp [execOp, hx, Op.unary], den_bool⟩
    · cases h
  | convert src dst x =>
    simp only [pv] at h
    obtain ⟨u, h1, h2⟩ := convP_sound hT (hρ x (by simp [Op.operands])) h
    exact ⟨u, fun w' _ => by simp [execOp, h1], h2⟩
  | load t a =>
    simp only [pv] at h
    obtain ⟨u, h1, h2⟩ := loadP_sound hT hS (hρ a (by simp [Op.operands])) h hs
    exact ⟨u, fun w' hw => by simp [execOp, h1 w' (hw rfl)], h2⟩
  | fieldAddr s x f =>
    simp only [pv] at h
    obtain ⟨u, h1, h2⟩ := fieldP_sound hT (hρ x (by simp [Op.operands])) h
    exact ⟨u, fun w' hw => by simp [execOp, h1], h2⟩
  | field s x f =>
    simp only [pv] at h
    obtain ⟨u, h1, h2⟩ := partP_sound hT (hρ x (by simp [Op.operands])) h hs
    exact ⟨u, fun w' hw => by simp [execOp, h1], h2⟩
  | indexAddr t x i =>
    simp only [pv] at h
    obtain ⟨u, h1, h2⟩ := indexP_sound hT hS (hρ x (by simp [Op.operands])) (hρ i (by simp [Op.operands])) h hs
    exact ⟨u, fun w' hw => by simp [execOp, h1], h2⟩
  | index t x i =>
    simp only [pv] at h
    obtain ⟨u, h1, h2⟩ := valP_sound hT (hρ x (by simp [Op.operands])) (hρ i (by simp [Op.operands])) h hs
    exact ⟨u, fun w' hw => by simp [execOp, h1], h2⟩
  | nilCheck x =>
    simp only [pv] at h
    have hx := hρ x (by simp [Op.operands])
    split at h
    · rename_i n f ea
      injection h with h; injection h with _ e2; subst e2
      rw [ea] at hx
      refine ⟨ρv x, fun w' _ => ?_, hx⟩
      simp only [Den] at hx
      obtain ⟨a, e, _⟩ := hx
      simp [execOp, e]
    · rename_i i off ea
      injection h with h; injection h with _ e2; subst e2
      rw [ea] at hx
      refine ⟨ρv x, fun w' _ => ?_, hx⟩
      simp only [Den] at hx
      obtain ⟨_, a, _, e⟩ := hx
      simp [execOp, e]
    · rename_i i sz k j ea
      injection h with h; injection h with _ e2; subst e2
      rw [ea] at hx
      refine ⟨ρv x, fun w' _ => ?_, hx⟩
      simp only [Den] at hx
      obtain ⟨_, a, _, e⟩ := hx
      simp [execOp, e]
    · rename_i f cap ea
      injection h with h; injection h with _ e2; subst e2
      rw [ea] at hx
      refine ⟨ρv x, fun w' _ => ?_, hx⟩
      simp only [Den] at hx
      obtain ⟨us, e, _⟩ := hx
      simp [execOp, e]
    · cases h
  | extract x i =>
    simp only [pv] at h
    have hx := hρ x (by simp [Op.operands])
    split at h
    · rename_i vs ea
      split at h
      · rename_i a hva
        injection h with h; injection h with _ e2; subst e2
        rw [ea] at hx
        simp only [Den] at hx
        obtain ⟨us, e, hd⟩ := hx
        obtain ⟨u, g1, g2⟩ := hd.get i a hva
        exact ⟨u, fun w' _ => by simp [execOp, e, Instr.extract, g1], g2⟩
      · cases h
    · cases h
  | slice t x lo hi mx =>
    simp only [pv] at h
    have hx := hρ x (by simp [Op.operands])
    obtain ⟨u, h1, h2⟩ := sliceP_sound (ulo := lo.map ρv) (uhi := hi.map ρv) (umx := mx.map ρv) hT hS hx
      (fun a e => by
        cases lo with
        | none => cases e
        | some y => injection e with e; subst e; exact ⟨_, rfl, hρ y (by simp [Op.operands])⟩)
      (fun e => by cases lo <;> simp_all)
      (fun a e => by
        cases hi with
        | none => cases e
        | some y => injection e with e; subst e; exact ⟨_, rfl, hρ y (by simp [Op.operands])⟩)
      (fun e => by cases hi <;> simp_all)
      (fun a e => by
        cases mx with
        | none => cases e
        | some y => injection e with e; subst e; exact ⟨_, rfl, hρ y (by simp [Op.operands])⟩)
      (fun e => by cases mx <;> simp_all) h hs
    exact ⟨u, fun w' _ => by simp [execOp, h1], h2⟩
  | makeFunc fn first cap =>
    simp only [pv] at h
    split at h
    · rename_i f e0
      injection h with h; injection h with _ e2; subst e2
      have e1 : first = #[] := by simpa using e0
      subst e1
      refine ⟨.func (.func f) #[] (cap.map ρv), fun w' _ => by simp [execOp, Instr.makeFunc], ?_⟩
      simp only [Den]
      exact ⟨cap.toList.map ρv, by rw [map_arr], DenL.mapρ fun x hx => hρ x (by simpa [Op.operands] using hx)⟩
    · cases h
  | build t parts =>
    simp only [pv] at h
    obtain ⟨u, h1, h2⟩ := buildP_sound (us := parts.toList.map fun p => (p.1, ρv p.2)) hT (by simp) (fun j q e => by
      simp only [List.getElem?_map, Option.map_eq_some_iff] at e
      obtain ⟨p, e1, rfl⟩ := e
      refine ⟨ρv p.2, by simp only [List.getElem?_map, e1, Option.map_some], hρ p.2 ?_⟩
      simp only [Op.operands]
      exact List.mem_map.2 ⟨p, List.mem_of_getElem? e1, rfl⟩) h hs
    refine ⟨u, fun w' _ => ?_, h2⟩
    have e : (parts.map fun p => (p.1, ρv p.2)) = (parts.toList.map fun p => (p.1, ρv p.2)).toArray := map_arr _ _
    simp only [execOp, e, Sem.run_bind, h1, Result.andThen_ok, Sem.run_pure]
  | call c =>
    obtain ⟨callee, args, ats⟩ := c
    simp only [pv, builtP] at h
    cases callee with
    | value f => cases h
    | invoke r m => cases h
    | builtin b =>
      have hd := DenL.mapρ (σ := σ) (I := I) (w := w) (ρ := ρ) (ρv := ρv) (xs := args.toList) fun x hx => hρ x (by simpa [Op.operands, Call.operands] using hx)
      have ea : args.map ρv = (args.toList.map ρv).toArray := map_arr _ _
      simp only at h
      split at h
      · split at h
        · rename_i a t e1 e2
          have e2' : ats = #[t] := by apply Array.toList_inj.1; simpa using e2
          subst e2'
          rw [e1] at hd
          simp only [DenL] at hd
          obtain ⟨u, us', e3, hx, rfl⟩ := hd
          have e3' : args.map ρv = #[u] := by rw [ea, e3]
          split at h
          · rename_i x hx'
            obtain ⟨d, ti, g1, g2, _⟩ := (hT t _ hx').get
            split at h
            · rename_i htd
              rw [htd] at g2
              have hd : d = .string := by cases d <;> simp [TD.of] at g2; rfl
              subst hd
              split at h
              · rename_i s
                injection h with h; injection h with _ e2; subst e2
                simp only [Den, L.rd] at hx
                obtain ⟨rfl, _⟩ := hx
                exact ⟨_, fun w' _ => by simp [execOp, resolve, invoke, builtin, Builtin.len_, run_underlying g1, e3', goInt], den_int⟩
              · cases h
            · rename_i e' htd
              split at h
              · cases h
              · rename_i ea'
                obtain ⟨u', h1, h2⟩ := lenP_sound hT hS hx' htd hx ea' h
                exact ⟨u', fun w' _ => by simp [execOp, resolve, invoke, builtin, e3', h1], h2⟩
            · cases h
          · cases h
        · cases h
      · split at h
        · rename_i n hn
          injection h with h; injection h with _ e2; subst e2
          refine ⟨_, fun w' _ => ?_, den_int⟩
          have := minP_sound (P := P) hd hn ats ty w'
          simp only [execOp, resolve, invoke, builtin, Sem.run_bind, Sem.run_pure, Result.andThen_ok, ea, this]
        · cases h
      · split at h
        · rename_i n hn
          injection h with h; injection h with _ e2; subst e2
          refine ⟨_, fun w' _ => ?_, den_int⟩
          have := maxP_sound (P := P) hd hn ats ty w'
          simp only [execOp, resolve, invoke, builtin, Sem.run_bind, Sem.run_pure, Result.andThen_ok, ea, this]
        · cases h
      · cases h
  | _ => simp [pv] at h

end
end Go.Proofs.YtjfnhehjhicnoaaDoor
