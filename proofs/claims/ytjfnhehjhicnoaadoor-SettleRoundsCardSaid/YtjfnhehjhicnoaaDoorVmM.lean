/-
  From a function's contract to a law's row.
-/
import Derived.Test.YtjfnhehjhicnoaaDoorVmL
import Derived.Below
import Derived.ChangeSame
namespace Go.Proofs.YtjfnhehjhicnoaaDoor
open Go.RowKit Go.ChangeShapes Go.WideShapes

section
variable {H : Type} {enc : TypeId × Value → H} {P : Program}
theorem post_of_below {f : Func} {s : ChangeSpec} {apart fresh handsOn again : Bool} {W W' : World} {args : Array Value} {v : Value} {ds gs : List (DataW H)} {before pa pv : List MemPlace}
    (hW : DataW.Whole enc P f.params.toList s.vars apart W args.toList ds gs before)
    (hres : ∀ (b : Nat) (sp : Nat → Bool) (hd : Bool), DataW.TrodAll enc P W' b sp hd f.resultTypes.toList (v.resultList f.resultTypes.size) (s.fn H (ds ++ gs)).results [])
    (hargs : ∀ sp : Nat → Bool, (∀ p ∈ before, sp p.block = true) → DataW.TrodAll enc P W' 0 sp true f.params.toList args.toList (s.fn H (ds ++ gs)).args pa)
    (hvars : ∀ sp : Nat → Bool, (∀ p ∈ before, sp p.block = true) → DataW.TrodVars enc P W' sp s.vars (s.fn H (ds ++ gs)).vars pv)
    (hps : before = pa ++ pv) (hb : Below W.heap.size W W')
    (hok : ∀ (j : Nat) (t : TypeId) (r : Value), f.resultTypes[j]? = some t → (v.resultList f.resultTypes.size)[j]? = some r → Value.okWide P W' .any 0 t r) :
    s.post enc P f apart fresh handsOn again W args v W' := by
  have hlt : ∀ p ∈ before, p.block < W.heap.size := fun p hp => hW.lt p hp
  have hold : ∀ p ∈ before, (fun b => decide (b < W.heap.size)) p.block = true := fun p hp => by simpa using hlt p hp
  refine ⟨ds, gs, before, [], pa, pv, hW, hres _ _ _, hargs _ hold, hvars _ hold, World.keptBut_mono (fun p hp => ⟨hp, ?_⟩) (hb.frame (· ∈ before)), fun _ => ?_⟩
  · rw [hps, List.mem_append] at hp
    exact Or.inr hp
  · obtain ⟨_, _, _, _, _, hz, hn⟩ := hW
    refine ⟨hok, _, _, ([] ++ pa) ++ pv, ⟨[] ++ pa, pv, trodAll_append (hargs _ (fun _ _ => rfl)) (hres _ _ _), hvars _ (fun _ _ => rfl), rfl, ?_, ?_⟩, ?_⟩
    · intro b off hp
      have hin : MemPlace.cell b off ∈ before := by rw [hps]; simpa using hp
      rw [hb.frozen (hlt _ hin)]
      exact hz b off hin
    · intro ha
      have := hn ha
      rw [hps] at this
      simpa using this
    · intro p hp _
      rw [hps]
      simpa using hp

theorem stays' {P : Program} (hl : laidOutB P = true) {W W' : World} (hb : Below W.heap.size W W') {sp : Nat → Bool} : ∀ (us : List TypeId) (vs : List Value) (ds : List (DataW H)) (ps : List MemPlace), (us.all fun t => P.readableRec t && decide (t < P.types.size)) = true → (∀ x ∈ ps, x.block < W.heap.size) → (∀ x ∈ ps, sp x.block = true) →
    DataW.TrodAll enc P W 0 (fun _ => true) true us vs ds ps → DataW.TrodAll enc P W' 0 sp true us vs ds ps := by
  intro us
  induction us with
  | nil =>
    intro vs ds ps _ _ _ h
    cases vs <;> cases ds <;> simp [DataW.TrodAll] at h ⊢
    exact h
  | cons u us ih =>
    intro vs ds ps hr hp hsp h
    simp only [List.all_cons, Bool.and_eq_true, decide_eq_true_eq] at hr
    cases vs with
    | nil => simp [DataW.TrodAll] at h
    | cons v vs =>
      cases ds with
      | nil => simp [DataW.TrodAll] at h
      | cons d ds =>
        simp only [DataW.TrodAll] at h ⊢
        obtain ⟨p, q, h1, h2, rfl⟩ := h
        exact ⟨p, q, WideElems.Trod_stays hl hr.1.1 hr.1.2 h1 (fun x hx => hb.same (hp x (List.mem_append_left _ hx))) (fun x hx => hsp x (List.mem_append_left _ hx)), ih vs ds q hr.2 (fun x hx => hp x (List.mem_append_right _ hx)) (fun x hx => hsp x (List.mem_append_right _ hx)) h2, rfl⟩

theorem TrodAll.len {w : World} {base : Nat} {sp : Nat → Bool} {held : Bool} : ∀ {us : List TypeId} {vs : List Value} {ds : List (DataW H)} {ps : List MemPlace}, DataW.TrodAll enc P w base sp held us vs ds ps → ds.length = us.length := by
  intro us
  induction us with
  | nil =>
    intro vs ds ps h
    cases vs <;> cases ds <;> simp [DataW.TrodAll] at h ⊢
  | cons u us ih =>
    intro vs ds ps h
    cases vs with
    | nil => simp [DataW.TrodAll] at h
    | cons v vs =>
      cases ds with
      | nil => simp [DataW.TrodAll] at h
      | cons d ds =>
        simp only [DataW.TrodAll] at h
        obtain ⟨p, q, _, h2, _⟩ := h
        simp [ih h2]

theorem law_post {f : FuncId} {fn : Func} {s : ChangeSpec} {fresh handsOn again : Bool} (tys : List Ty) (hfit : fitsAll P tys fn.params.toList = true) (hl : laidOutB P = true)
    (hr : (fn.params.toList.all fun t => P.readableRec t && decide (t < P.types.size)) = true) (hvars : s.vars = []) {tb : TypeId} (hrt : fn.resultTypes = #[tb]) (hb : P.underlying tb = some .bool)
    (hs : ∀ ds : List (DataW H), ds.length = fn.params.toList.length → s.fn H ds = { results := [.lit (.bool true)], args := ds })
    (hF : ∀ x, Vals.inR tys x → Fn1 P f (Vals.avs tys x) (boolV true))
    (W : World) (args : Array Value) (ds gs : List (DataW H)) (before : List MemPlace)
    {b0 : Nat} (hval : ∀ (j : Nat) t v, fn.params[j]? = some t → args[j]? = some v → Value.okWide P W .any b0 t v)
    (hW : DataW.Whole enc P fn.params.toList s.vars false W args.toList ds gs before) :
    Calls P f args W fun e W' => ∃ v, e = .returned v ∧ s.post enc P fn false fresh handsOn again W args v W' := by
  have hW' := hW
  obtain ⟨p, q, hA, hV, rfl, _, _⟩ := hW
  obtain ⟨x, hx, hd⟩ := open_avs (r := .any) (b0 := b0) tys fn.params.toList args.toList ds p hfit (fun j t v e1 e2 => hval j t v (by simpa using e1) (by simpa using e2)) hA
  have hlen : ds.length = fn.params.toList.length := TrodAll.len hA
  have hg : gs = [] ∧ q = [] := by
    rw [hvars] at hV
    cases gs with
    | nil => exact ⟨rfl, hV⟩
    | cons g gs => simp [DataW.TrodVars] at hV
  obtain ⟨rfl, rfl⟩ := hg
  have hsd := hs ds hlen
  have hc := (hF x hx).2 W (Old W) args.toList (fun b hb => hb) hd
  simp only [Array.toArray_toList] at hc
  refine hc.mono fun e W' ⟨u, σ, I', obs, r, he, hk, hsm, _, _, _, hu⟩ => ?_
  obtain ⟨rfl, rfl⟩ := hk
  simp only [boolV, Den, L.rd] at hu
  obtain ⟨rfl, _⟩ := hu
  have hbel : Below W.heap.size W W' := hsm.below _ (Nat.le_refl _)
  refine ⟨_, he, post_of_below (pa := p) (pv := []) hW' (fun b sp hd => ?_) (fun sp hsp => ?_) (fun sp _ => ?_) rfl hbel ?_⟩
  · rw [List.append_nil, hsd, hrt]
    exact trodAll_mk1 (shut_bool hb true)
  · rw [List.append_nil, hsd]
    exact stays' hl hbel _ _ _ _ hr (fun y hy => hW'.lt y (List.mem_append_left _ hy)) (fun y hy => hsp y (List.mem_append_left _ hy)) hA
  · rw [List.append_nil, hsd, hvars]
    rfl
  · intro j t r e1 e2
    rw [hrt] at e1 e2
    match j, e1, e2 with
    | 0, e1, e2 =>
      simp at e1; subst e1
      obtain rfl : r = .bool true := by simpa [Value.resultList] using e2.symm
      simp [Value.okWide, hb, Cell.okWide, Cell.ok]
    | j + 1, e1, _ => simp at e1

end

theorem tupII {a b a' b' : Int} (h : a = a') (k : b = b') : AV.tup [intV a, intV b] = AV.tup [intV a', intV b'] := by rw [h, k]
theorem wr_id {x : Int} (h1 : -9223372036854775808 ≤ x) (h2 : x ≤ 9223372036854775807) : IntKind.i64.wrap x = x := by
  simp only [IntKind.wrap, IntKind.bits, IntKind.signed]
  simp
  omega
end Go.Proofs.YtjfnhehjhicnoaaDoor
