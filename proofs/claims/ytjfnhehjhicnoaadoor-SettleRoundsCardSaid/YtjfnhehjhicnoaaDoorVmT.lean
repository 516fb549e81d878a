/-
  A variable's table that stands in memory: walks, contracts and rows where it is read.
-/
import Derived.Test.YtjfnhehjhicnoaaDoorVmS
import Derived.Test.YtjfnhehjhicnoaaDoorVmN
import Derived.Lib.LaidTab
namespace Go.Proofs.YtjfnhehjhicnoaaDoor
open Go.RowKit Go.ChangeShapes Go.WideShapes

/-- a function's contract where a table stands, out of a walk of its code -/
theorem fnT_of_wpx {P : Program} {T : Tab} {Γ : Gam} {O : Ord} (hT : TabOk P T) (hG : GOk P Γ) (hm : P.follows .mixedOrders = true) {f : FuncId} {fn : Func} {c : Code} {rs : List ResultVar} {N : Nat} {args : List AV} {K : List OB → AV → Prop} {g : Nat} {tc : Array Value}
    (hf : P.funcs[f]? = some fn) (hname : (fn.name == "runtime.NumGoroutine") = false) (hb : fn.body = some c) (hres : fn.results.toList = rs) (hN : fn.ntmps = N) (hlt : args.length ≤ N)
    (hok : (Nat.ble N 1000000 && codeOk (Gq Γ) N O c) = true) (h : wpx P T Γ N O c ⟨parms 0 args ++ [(1000000, .gt g tc)], []⟩ (FinK T rs K)) : FnT P g tc f args K := by
  refine ⟨⟨fn, hf, hname, by rw [hb]; rfl⟩, fun w I vs hI ht hd => calls_of_wp hf hb ?_⟩
  simp only [Bool.and_eq_true, Nat.ble_eq] at hok
  have hlen := hd.len
  let E : Env := ⟨w, fun b => w.heap.size ≤ b, fun _ => undef, fun _ h => h⟩
  have hr : Rel E I ⟨parms 0 args ++ [(1000000, .gt g tc)], []⟩ Asg.zero I (vs.toArray ++ Array.replicate (fn.ntmps - vs.toArray.size) undef) w := by
    refine ⟨SameF.refl _ w, ⟨rfl, hI, fun i o e => by simp at e, fun i o b e => by simp at e, fun i j oi oj b e => by simp at e⟩, ?_, fun _ h => h, fun _ h => .inl h, by simp; omega⟩
    have := start_fr (E := E) (N := fn.ntmps) hd (by omega) (by omega) [(1000000, .gt g tc)] (fun t ht => by simp only [fget]; rw [if_neg (by omega)]) (fun t _ => by
      simp only [fget]
      by_cases h : 1000000 = t
      · rw [if_pos h]
        simp only [Den] at ht ⊢
        exact ht
      · rw [if_neg h]; simp only [Den])
    exact this
  have hw := wpx_sound hT hG hm c _ _ hok.2 h E I Asg.zero I { tmps := vs.toArray ++ Array.replicate (fn.ntmps - vs.toArray.size) undef, defers := [] } w rfl (by simp; omega) hr
  refine Code.wp_mono (fun e a w' q => ?_) hw
  have fin : ∀ {a : Act} {w' : World}, At E I N (Fin T rs K) a w' → a.defers = [] ∧ ∃ v, (results fn a.tmps).run P w' = .ok v w' ∧ FnPost w I K (.returned v) w' := by
    rintro a w' ⟨h1, h2, S, σ, I', ⟨h3, h4⟩, h5⟩
    refine ⟨h1, ?_⟩
    split at h4
    · rename_i r hr
      obtain ⟨u, hrun, hden⟩ := resA_sound hT hres h5 h3 hr
      refine ⟨u, hrun, ?_⟩
      have hsm : Same w w' := h5.same0.same
      rcases h4 with ⟨π, obs', r', hn, hob, rfl, hid, hk⟩ | hk
      · exact ⟨u, σ.ren π obs'.length, I', obs', r', rfl, hk, hsm, h5.i1, h5.i2, h5.st.ren hn hob, ren_den hid hden⟩
      · have hkill := h5.kill (idsOf S.obs r)
        refine ⟨u, Asg.zero, frozenI σ I' S.obs (idsOf S.obs r), [], frz S.obs r, rfl, hk, hsm, fun b hb => .inl (h5.i1 b hb), hkill.i2, ?_, ?_⟩
        · exact ⟨rfl, hkill.st.imm, fun i o e => by simp at e, fun i o b e => by simp at e, fun i j oi oj b e => by simp at e⟩
        · exact frz_sound Asg.zero h5.st (fun _ hb => Or.inl hb) (fun i hi o b ho hl hb => .inr ⟨i, hi, o, ho, hl, hb⟩) hden
    · exact h4.elim
  cases e with
  | normal => exact fin q
  | ret => exact fin q
  | exit id => obtain ⟨_, _, _, _, _, hk, _⟩ := q; exact hk.elim
  | goto l => exact q
  | panic ch => exact q.elim
  | outgrown => exact q.elim


/-- a function's contract where two tables stand, out of a walk of its code -/
theorem fnT2_of_wpx {P : Program} {T : Tab} {Γ : Gam} {O : Ord} (hT : TabOk P T) (hG : GOk P Γ) (hm : P.follows .mixedOrders = true) {f : FuncId} {fn : Func} {c : Code} {rs : List ResultVar} {N : Nat} {args : List AV} {K : List OB → AV → Prop} {g : Nat} {tc : Array Value} {g2 : Nat} {tc2 : Array Value}
    (hf : P.funcs[f]? = some fn) (hname : (fn.name == "runtime.NumGoroutine") = false) (hb : fn.body = some c) (hres : fn.results.toList = rs) (hN : fn.ntmps = N) (hlt : args.length ≤ N)
    (hok : (Nat.ble N 1000000 && codeOk (Gq Γ) N O c) = true) (h : wpx P T Γ N O c ⟨parms 0 args ++ [(1000000, .gt g tc), (1000001, .gt g2 tc2)], []⟩ (FinK T rs K)) : FnT2 P g tc g2 tc2 f args K := by
  refine ⟨⟨fn, hf, hname, by rw [hb]; rfl⟩, fun w I vs hI ht ht2 hd => calls_of_wp hf hb ?_⟩
  simp only [Bool.and_eq_true, Nat.ble_eq] at hok
  have hlen := hd.len
  let E : Env := ⟨w, fun b => w.heap.size ≤ b, fun _ => undef, fun _ h => h⟩
  have hr : Rel E I ⟨parms 0 args ++ [(1000000, .gt g tc), (1000001, .gt g2 tc2)], []⟩ Asg.zero I (vs.toArray ++ Array.replicate (fn.ntmps - vs.toArray.size) undef) w := by
    refine ⟨SameF.refl _ w, ⟨rfl, hI, fun i o e => by simp at e, fun i o b e => by simp at e, fun i j oi oj b e => by simp at e⟩, ?_, fun _ h => h, fun _ h => .inl h, by simp; omega⟩
    have := start_fr (E := E) (N := fn.ntmps) hd (by omega) (by omega) [(1000000, .gt g tc), (1000001, .gt g2 tc2)] (fun t ht => by simp only [fget]; rw [if_neg (by omega), if_neg (by omega)]) (fun t _ => by
      simp only [fget]
      by_cases h : 1000000 = t
      · rw [if_pos h]
        simp only [Den] at ht ⊢
        exact ht
      · rw [if_neg h]
        by_cases h2 : 1000001 = t
        · rw [if_pos h2]
          simp only [Den] at ht2 ⊢
          exact ht2
        · rw [if_neg h2]; simp only [Den])
    exact this
  have hw := wpx_sound hT hG hm c _ _ hok.2 h E I Asg.zero I { tmps := vs.toArray ++ Array.replicate (fn.ntmps - vs.toArray.size) undef, defers := [] } w rfl (by simp; omega) hr
  refine Code.wp_mono (fun e a w' q => ?_) hw
  have fin : ∀ {a : Act} {w' : World}, At E I N (Fin T rs K) a w' → a.defers = [] ∧ ∃ v, (results fn a.tmps).run P w' = .ok v w' ∧ FnPost w I K (.returned v) w' := by
    rintro a w' ⟨h1, h2, S, σ, I', ⟨h3, h4⟩, h5⟩
    refine ⟨h1, ?_⟩
    split at h4
    · rename_i r hr
      obtain ⟨u, hrun, hden⟩ := resA_sound hT hres h5 h3 hr
      refine ⟨u, hrun, ?_⟩
      have hsm : Same w w' := h5.same0.same
      rcases h4 with ⟨π, obs', r', hn, hob, rfl, hid, hk⟩ | hk
      · exact ⟨u, σ.ren π obs'.length, I', obs', r', rfl, hk, hsm, h5.i1, h5.i2, h5.st.ren hn hob, ren_den hid hden⟩
      · have hkill := h5.kill (idsOf S.obs r)
        refine ⟨u, Asg.zero, frozenI σ I' S.obs (idsOf S.obs r), [], frz S.obs r, rfl, hk, hsm, fun b hb => .inl (h5.i1 b hb), hkill.i2, ?_, ?_⟩
        · exact ⟨rfl, hkill.st.imm, fun i o e => by simp at e, fun i o b e => by simp at e, fun i j oi oj b e => by simp at e⟩
        · exact frz_sound Asg.zero h5.st (fun _ hb => Or.inl hb) (fun i hi o b ho hl hb => .inr ⟨i, hi, o, ho, hl, hb⟩) hden
    · exact h4.elim
  cases e with
  | normal => exact fin q
  | ret => exact fin q
  | exit id => obtain ⟨_, _, _, _, _, hk, _⟩ := q; exact hk.elim
  | goto l => exact q
  | panic ch => exact q.elim
  | outgrown => exact q.elim


theorem FnT.of {P : Program} {g : Nat} {tc : Array Value} {f : FuncId} {args : List AV} {K : List OB → AV → Prop} (h : Fn P f args K) : FnT P g tc f args K := ⟨h.1, fun w I vs hI _ hd => h.2 w I vs hI hd⟩
theorem FnT.le {P : Program} {g : Nat} {tc : Array Value} {f : FuncId} {as' as : List AV} {K : List OB → AV → Prop} (h : FnT P g tc f as K) (hl : Le as' as) : FnT P g tc f as' K := ⟨h.1, fun w I vs hI ht hd => h.2 w I vs hI ht (hl _ _ _ _ hd)⟩
theorem FnT.res {P : Program} {g : Nat} {tc : Array Value} {f : FuncId} {as : List AV} {K K' : List OB → AV → Prop} (h : FnT P g tc f as K) (hk : ∀ obs r, K obs r → ∃ r', K' obs r' ∧ Le1 r r') : FnT P g tc f as K' :=
  ⟨h.1, fun w I vs hI ht hd => (h.2 w I vs hI ht hd).mono fun _ _ ⟨u, σ, I', obs, r, h1, h2, h3, h4, h5, h6, h7⟩ => by
    obtain ⟨r', k1, k2⟩ := hk _ _ h2
    exact ⟨u, σ, I', obs, r', h1, k1, h3, h4, h5, h6, k2 _ _ _ _ h7⟩⟩
section
variable {H : Type} {enc : TypeId × Value → H} {P : Program}
theorem law_postT {f : FuncId} {fn : Func} {s : ChangeSpec} {fresh handsOn again : Bool} (tys : List Ty) (hfit : fitsAll P tys fn.params.toList = true) (hl : laidOutB P = true)
    (hr : (fn.params.toList.all fun t => P.readableRec t && decide (t < P.types.size)) = true) (hvars : s.vars = []) {tb : TypeId} (hrt : fn.resultTypes = #[tb]) (hb : P.underlying tb = some .bool)
    (hs : ∀ ds : List (DataW H), ds.length = fn.params.toList.length → s.fn H ds = { results := [.lit (.bool true)], args := ds })
    {g : Nat} {tc : Array Value} (hF : ∀ x, Vals.inR tys x → FnT P g tc f (Vals.avs tys x) fun obs r => obs = [] ∧ r = boolV true)
    (W : World) (args : Array Value) (ds gs : List (DataW H)) (before : List MemPlace)
    {b0 : Nat} (hval : ∀ (j : Nat) t v, fn.params[j]? = some t → args[j]? = some v → Value.okWide P W .any b0 t v)
    (hW : DataW.Whole enc P fn.params.toList s.vars false W args.toList ds gs before) (hT : ∃ ty fr, W.heap[g]? = some (.cells tc ty fr)) :
    Calls P f args W fun e W' => ∃ v, e = .returned v ∧ s.post enc P fn false fresh handsOn again W args v W' := by
  have hW' := hW
  obtain ⟨p, q, hA, hV, rfl, _, _⟩ := hW
  obtain ⟨x, hx, hd⟩ := open_avs (r := .any) (b0 := b0) tys fn.params.toList args.toList ds p hfit (fun j t v e1 e2 => hval j t v (by simpa using e1) (by simpa using e2)) hA
  have hlen : ds.length = fn.params.toList.length := TrodAll.len hA
  have hg : gs = [] ∧ q = [] := by
    rw [hvars] at hV
    cases gs with
    | nil => exact ⟨rfl, hV⟩
    | cons g gs => simp [DataW.TrodVars] at hV
  obtain ⟨rfl, rfl⟩ := hg
  have hsd := hs ds hlen
  have hc := (hF x hx).2 W (Old W) args.toList (fun b hb => hb) (by
    simp only [Den]
    obtain ⟨ty, fr, e⟩ := hT
    exact ⟨(Array.getElem?_eq_some_iff.1 e).1, ty, fr, e⟩) hd
  simp only [Array.toArray_toList] at hc
  refine hc.mono fun e W' ⟨u, σ, I', obs, r, he, hk, hsm, _, _, _, hu⟩ => ?_
  obtain ⟨rfl, rfl⟩ := hk
  simp only [boolV, Den, L.rd] at hu
  obtain ⟨rfl, _⟩ := hu
  have hbel : Below W.heap.size W W' := hsm.below _ (Nat.le_refl _)
  refine ⟨_, he, post_of_below (pa := p) (pv := []) hW' (fun b sp hd => ?_) (fun sp hsp => ?_) (fun sp _ => ?_) rfl hbel ?_⟩
  · rw [List.append_nil, hsd, hrt]
    exact trodAll_mk1 (shut_bool hb true)
  · rw [List.append_nil, hsd]
    exact stays' hl hbel _ _ _ _ hr (fun y hy => hW'.lt y (List.mem_append_left _ hy)) (fun y hy => hsp y (List.mem_append_left _ hy)) hA
  · rw [List.append_nil, hsd, hvars]
    rfl
  · intro j t r e1 e2
    rw [hrt] at e1 e2
    match j, e1, e2 with
    | 0, e1, e2 =>
      simp at e1; subst e1
      obtain rfl : r = .bool true := by simpa [Value.resultList] using e2.symm
      simp [Value.okWide, hb, Cell.okWide, Cell.ok]
    | j + 1, e1, _ => simp at e1



theorem law_postT2 {f : FuncId} {fn : Func} {s : ChangeSpec} {fresh handsOn again : Bool} (tys : List Ty) (hfit : fitsAll P tys fn.params.toList = true) (hl : laidOutB P = true)
    (hr : (fn.params.toList.all fun t => P.readableRec t && decide (t < P.types.size)) = true) (hvars : s.vars = []) {tb : TypeId} (hrt : fn.resultTypes = #[tb]) (hb : P.underlying tb = some .bool)
    (hs : ∀ ds : List (DataW H), ds.length = fn.params.toList.length → s.fn H ds = { results := [.lit (.bool true)], args := ds })
    {g : Nat} {tc : Array Value} {g2 : Nat} {tc2 : Array Value} (hF : ∀ x, Vals.inR tys x → FnT2 P g tc g2 tc2 f (Vals.avs tys x) fun obs r => obs = [] ∧ r = boolV true)
    (W : World) (args : Array Value) (ds gs : List (DataW H)) (before : List MemPlace)
    {b0 : Nat} (hval : ∀ (j : Nat) t v, fn.params[j]? = some t → args[j]? = some v → Value.okWide P W .any b0 t v)
    (hW : DataW.Whole enc P fn.params.toList s.vars false W args.toList ds gs before) (hT : ∃ ty fr, W.heap[g]? = some (.cells tc ty fr)) (hT2 : ∃ ty fr, W.heap[g2]? = some (.cells tc2 ty fr)) :
    Calls P f args W fun e W' => ∃ v, e = .returned v ∧ s.post enc P fn false fresh handsOn again W args v W' := by
  have hW' := hW
  obtain ⟨p, q, hA, hV, rfl, _, _⟩ := hW
  obtain ⟨x, hx, hd⟩ := open_avs (r := .any) (b0 := b0) tys fn.params.toList args.toList ds p hfit (fun j t v e1 e2 => hval j t v (by simpa using e1) (by simpa using e2)) hA
  have hlen : ds.length = fn.params.toList.length := TrodAll.len hA
  have hg : gs = [] ∧ q = [] := by
    rw [hvars] at hV
    cases gs with
    | nil => exact ⟨rfl, hV⟩
    | cons g gs => simp [DataW.TrodVars] at hV
  obtain ⟨rfl, rfl⟩ := hg
  have hsd := hs ds hlen
  have hc := (hF x hx).2 W (Old W) args.toList (fun b hb => hb) (by
    simp only [Den]
    obtain ⟨ty, fr, e⟩ := hT
    exact ⟨(Array.getElem?_eq_some_iff.1 e).1, ty, fr, e⟩) (by
    simp only [Den]
    obtain ⟨ty, fr, e⟩ := hT2
    exact ⟨(Array.getElem?_eq_some_iff.1 e).1, ty, fr, e⟩) hd
  simp only [Array.toArray_toList] at hc
  refine hc.mono fun e W' ⟨u, σ, I', obs, r, he, hk, hsm, _, _, _, hu⟩ => ?_
  obtain ⟨rfl, rfl⟩ := hk
  simp only [boolV, Den, L.rd] at hu
  obtain ⟨rfl, _⟩ := hu
  have hbel : Below W.heap.size W W' := hsm.below _ (Nat.le_refl _)
  refine ⟨_, he, post_of_below (pa := p) (pv := []) hW' (fun b sp hd => ?_) (fun sp hsp => ?_) (fun sp _ => ?_) rfl hbel ?_⟩
  · rw [List.append_nil, hsd, hrt]
    exact trodAll_mk1 (shut_bool hb true)
  · rw [List.append_nil, hsd]
    exact stays' hl hbel _ _ _ _ hr (fun y hy => hW'.lt y (List.mem_append_left _ hy)) (fun y hy => hsp y (List.mem_append_left _ hy)) hA
  · rw [List.append_nil, hsd, hvars]
    rfl
  · intro j t r e1 e2
    rw [hrt] at e1 e2
    match j, e1, e2 with
    | 0, e1, e2 =>
      simp at e1; subst e1
      obtain rfl : r = .bool true := by simpa [Value.resultList] using e2.symm
      simp [Value.okWide, hb, Cell.okWide, Cell.ok]
    | j + 1, e1, _ => simp at e1



theorem law_postST {f : FuncId} {fn : Func} {s : ChangeSpec} {fresh handsOn again : Bool} (tys : List Ty) (hfit : fitsAll P tys fn.params.toList = true) (hl : laidOutB P = true)
    (hr : (fn.params.toList.all fun t => P.readableRec t && decide (t < P.types.size)) = true) (hvars : s.vars = []) (hvt : s.plain.varTypes P = []) {tb : TypeId} (hrt : fn.resultTypes = #[tb]) (hb : P.underlying tb = some .bool)
    (hs : ∀ ds : List (DataW H), ds.length = fn.params.toList.length → s.fn H ds = { results := [.lit (.bool true)], args := ds })
    {g : Nat} {tc : Array Value} (hF : ∀ x, Vals.inR tys x → Vals.szd P tys fn.params.toList x → FnT P g tc f (Vals.avs tys x) fun obs r => obs = [] ∧ r = boolV true)
    (W : World) (args : Array Value) (ds gs : List (DataW H)) (before : List MemPlace)
    {b0 : Nat} (hval : ∀ (j : Nat) t v, fn.params[j]? = some t → args[j]? = some v → Value.okWide P W .any b0 t v)
    (hW : DataW.Whole enc P fn.params.toList s.vars false W args.toList ds gs before)
    (hz : (DataW.weightsEach P (fn.params.toList ++ s.plain.varTypes P) (ds ++ gs)).all (· ≤ reachBytes) = true) (hT : ∃ ty fr, W.heap[g]? = some (.cells tc ty fr)) :
    Calls P f args W fun e W' => ∃ v, e = .returned v ∧ s.post enc P fn false fresh handsOn again W args v W' := by
  have hW' := hW
  obtain ⟨p, q, hA, hV, rfl, _, _⟩ := hW
  obtain ⟨x, hx, hd⟩ := open_avs (r := .any) (b0 := b0) tys fn.params.toList args.toList ds p hfit (fun j t v e1 e2 => hval j t v (by simpa using e1) (by simpa using e2)) hA
  have hlen : ds.length = fn.params.toList.length := TrodAll.len hA
  have hg : gs = [] ∧ q = [] := by
    rw [hvars] at hV
    cases gs with
    | nil => exact ⟨rfl, hV⟩
    | cons g gs => simp [DataW.TrodVars] at hV
  obtain ⟨rfl, rfl⟩ := hg
  rw [hvt, List.append_nil, List.append_nil] at hz
  have hsd := hs ds hlen
  have hc := (hF x hx (szd_all tys _ _ _ _ x hA hd hz)).2 W (Old W) args.toList (fun b hb => hb) (by
    simp only [Den]
    obtain ⟨ty, fr, e⟩ := hT
    exact ⟨(Array.getElem?_eq_some_iff.1 e).1, ty, fr, e⟩) hd
  simp only [Array.toArray_toList] at hc
  refine hc.mono fun e W' ⟨u, σ, I', obs, r, he, hk, hsm, _, _, _, hu⟩ => ?_
  obtain ⟨rfl, rfl⟩ := hk
  simp only [boolV, Den, L.rd] at hu
  obtain ⟨rfl, _⟩ := hu
  have hbel : Below W.heap.size W W' := hsm.below _ (Nat.le_refl _)
  refine ⟨_, he, post_of_below (pa := p) (pv := []) hW' (fun b sp hd => ?_) (fun sp hsp => ?_) (fun sp _ => ?_) rfl hbel ?_⟩
  · rw [List.append_nil, hsd, hrt]
    exact trodAll_mk1 (shut_bool hb true)
  · rw [List.append_nil, hsd]
    exact stays' hl hbel _ _ _ _ hr (fun y hy => hW'.lt y (List.mem_append_left _ hy)) (fun y hy => hsp y (List.mem_append_left _ hy)) hA
  · rw [List.append_nil, hsd, hvars]
    rfl
  · intro j t r e1 e2
    rw [hrt] at e1 e2
    match j, e1, e2 with
    | 0, e1, e2 =>
      simp at e1; subst e1
      obtain rfl : r = .bool true := by simpa [Value.resultList] using e2.symm
      simp [Value.okWide, hb, Cell.okWide, Cell.ok]
    | j + 1, e1, _ => simp at e1


end
/-- the table in memory -/
theorem tab_at {P : Program} {w : World} {name : String} {k : IntKind} {zs : List Int} {g : Nat} (hg : P.globalNamed name = some g) (h : Lib.TabIs P w name k zs) : ∃ ty fr, w.heap[g]? = some (.cells (zs.map fun z => Value.int k z).toArray ty fr) := by
  unfold Lib.TabIs World.var? at h
  rw [hg] at h
  simp only [Option.bind_some] at h
  split at h
  · rename_i cs ty fr e
    injection h with h
    exact ⟨ty, fr, by rw [e, h]⟩
  · cases h
theorem tab_is {P : Program} {w : World} {name : String} {k : IntKind} {zs : List Int} {g : Nat} (hg : P.globalNamed name = some g) (h : ∃ ty fr, w.heap[g]? = some (.cells (zs.map fun z => Value.int k z).toArray ty fr)) : Lib.TabIs P w name k zs := by
  obtain ⟨ty, fr, e⟩ := h
  unfold Lib.TabIs World.var?
  rw [hg]
  simp only [Option.bind_some, e]
end Go.Proofs.YtjfnhehjhicnoaaDoor
