/-
  From a function's contract to a law's row, where the contract asks that the slices are no longer than memory.
-/
import Derived.Test.YtjfnhehjhicnoaaDoorVmM
import Derived.SizedLaws
namespace Go.Proofs.YtjfnhehjhicnoaaDoor
open Go.RowKit Go.ChangeShapes Go.WideShapes

section
variable {H : Type} {enc : TypeId × Value → H} {P : Program} {w : World} {base : Nat} {sp : Nat → Bool} {held : Bool} {σ : Asg} {I : Nat → Prop}

/-- each slice among the arguments lies in memory -/
def Vals.szd (P : Program) : (ts : List Ty) → List TypeId → Vals ts → Prop
  | .sl _ :: ts, t :: us, x => (∀ u, P.underlying t = some (.slice u) → x.1.1 * P.bytesOf u ≤ reachBytes) ∧ Vals.szd P ts us x.2
  | .i _ :: ts, _ :: us, x => Vals.szd P ts us x.2
  | .b :: ts, _ :: us, x => Vals.szd P ts us x.2
  | .s :: ts, _ :: us, x => Vals.szd P ts us x.2
  | .nil :: ts, _ :: us, x => Vals.szd P ts us x.2
  | .cons _ _ :: ts, _ :: us, x => Vals.szd P ts us x.2
  | .st _ :: ts, _ :: us, x => Vals.szd P ts us x.2
  | .ar _ _ :: ts, _ :: us, x => Vals.szd P ts us x.2
  | _, _, _ => True

theorem szd_one {t u : TypeId} {v : Value} {d : DataW H} {p : List MemPlace} {sz n : Nat} {f : Nat → Nat → L} (h : DataW.Trod enc P w base sp held t v d p) (hd : Den σ I w (.c (.sl sz n f)) v) (hu : P.underlying t = some (.slice u)) (hz : (d.weights P t).all (· ≤ reachBytes) = true) : n * P.bytesOf u ≤ reachBytes := by
  obtain ⟨fuel, h⟩ := h
  simp only [Den, L.rd] at hd
  obtain ⟨A, cap, rfl, hc, _, _⟩ := hd
  rcases DataW.trod_slice hu h with ⟨h0, _⟩ | ⟨a, len, cap', elems, rest, _, _, hcs, hx, _, _, _, hlen, _⟩
  · simp [Value.cells] at h0
    obtain ⟨_, rfl, _⟩ := h0
    simp
  · simp [Value.cells] at hcs
    obtain ⟨_, rfl, _⟩ := hcs
    injection hx with hx1 _
    subst hx1
    have := List.all_eq_true.1 hz (((elems.map (·.1)).length + (rest.map (·.1)).length) * P.bytesOf u) (by simp [DataW.weights, hu])
    simp only [List.length_map, decide_eq_true_eq] at this
    rw [hlen] at this
    exact Nat.le_trans (Nat.mul_le_mul_right _ (Nat.le_add_right _ _)) this

theorem szd_all : ∀ (ts : List Ty) (us : List TypeId) (vs : List Value) (ds : List (DataW H)) (ps : List MemPlace) (x : Vals ts), DataW.TrodAll enc P w base sp held us vs ds ps → DenL σ I w (Vals.avs ts x) vs → (DataW.weightsEach P us ds).all (· ≤ reachBytes) = true → Vals.szd P ts us x := by
  intro ts
  induction ts with
  | nil => intro us vs ds ps x _ _ _; simp only [Vals.szd]
  | cons t ts ih =>
    intro us vs ds ps x h hd hz
    cases us with
    | nil => simp only [Vals.szd]
    | cons u us =>
      cases vs with
      | nil => simp [DataW.TrodAll] at h
      | cons v vs =>
        cases ds with
        | nil => simp [DataW.TrodAll] at h
        | cons d ds =>
          simp only [DataW.TrodAll] at h
          obtain ⟨p, q, h1, h2, _⟩ := h
          simp only [Vals.avs, DenL] at hd
          obtain ⟨v', vs', e, d1, d2⟩ := hd
          injection e with e1 e2
          subst e1 e2
          simp only [DataW.weightsEach, List.all_append, Bool.and_eq_true] at hz
          have hr := ih us vs ds q x.2 h2 d2 hz.2
          cases t with
          | sl e => simp only [Vals.szd]; exact ⟨fun u' hu' => szd_one h1 d1 hu' hz.1, hr⟩
          | _ => simp only [Vals.szd]; exact hr

theorem law_postS {f : FuncId} {fn : Func} {s : ChangeSpec} {fresh handsOn again : Bool} (tys : List Ty) (hfit : fitsAll P tys fn.params.toList = true) (hl : laidOutB P = true)
    (hr : (fn.params.toList.all fun t => P.readableRec t && decide (t < P.types.size)) = true) (hvars : s.vars = []) (hvt : s.plain.varTypes P = []) {tb : TypeId} (hrt : fn.resultTypes = #[tb]) (hb : P.underlying tb = some .bool)
    (hs : ∀ ds : List (DataW H), ds.length = fn.params.toList.length → s.fn H ds = { results := [.lit (.bool true)], args := ds })
    (hF : ∀ x, Vals.inR tys x → Vals.szd P tys fn.params.toList x → Fn1 P f (Vals.avs tys x) (boolV true))
    (W : World) (args : Array Value) (ds gs : List (DataW H)) (before : List MemPlace)
    {b0 : Nat} (hval : ∀ (j : Nat) t v, fn.params[j]? = some t → args[j]? = some v → Value.okWide P W .any b0 t v)
    (hW : DataW.Whole enc P fn.params.toList s.vars false W args.toList ds gs before)
    (hz : (DataW.weightsEach P (fn.params.toList ++ s.plain.varTypes P) (ds ++ gs)).all (· ≤ reachBytes) = true) :
    Calls P f args W fun e W' => ∃ v, e = .returned v ∧ s.post enc P fn false fresh handsOn again W args v W' := by
  have hW' := hW
  obtain ⟨p, q, hA, hV, rfl, _, _⟩ := hW
  obtain ⟨x, hx, hd⟩ := open_avs (r := .any) (b0 := b0) tys fn.params.toList args.toList ds p hfit (fun j t v e1 e2 => hval j t v (by simpa using e1) (by simpa using e2)) hA
  have hlen : ds.length = fn.params.toList.length := TrodAll.len hA
  have hg : gs = [] ∧ q = [] := by
    rw [hvars] at hV
    cases gs with
    | nil => exact ⟨rfl, hV⟩
    | cons g gs => simp [DataW.TrodVars] at hV
  obtain ⟨rfl, rfl⟩ := hg
  rw [hvt, List.append_nil, List.append_nil] at hz
  have hsd := hs ds hlen
  have hc := (hF x hx (szd_all tys _ _ _ _ x hA hd hz)).2 W (Old W) args.toList (fun b hb => hb) hd
  simp only [Array.toArray_toList] at hc
  refine hc.mono fun e W' ⟨u, σ, I', obs, r, he, hk, hsm, _, _, _, hu⟩ => ?_
  obtain ⟨rfl, rfl⟩ := hk
  simp only [boolV, Den, L.rd] at hu
  obtain ⟨rfl, _⟩ := hu
  have hbel : Below W.heap.size W W' := hsm.below _ (Nat.le_refl _)
  refine ⟨_, he, post_of_below (pa := p) (pv := []) hW' (fun b sp hd => ?_) (fun sp hsp => ?_) (fun sp _ => ?_) rfl hbel ?_⟩
  · rw [List.append_nil, hsd, hrt]
    exact trodAll_mk1 (shut_bool hb true)
  · rw [List.append_nil, hsd]
    exact stays' hl hbel _ _ _ _ hr (fun y hy => hW'.lt y (List.mem_append_left _ hy)) (fun y hy => hsp y (List.mem_append_left _ hy)) hA
  · rw [List.append_nil, hsd, hvars]
    rfl
  · intro j t r e1 e2
    rw [hrt] at e1 e2
    match j, e1, e2 with
    | 0, e1, e2 =>
      simp at e1; subst e1
      obtain rfl : r = .bool true := by simpa [Value.resultList] using e2.symm
      simp [Value.okWide, hb, Cell.okWide, Cell.ok]
    | j + 1, e1, _ => simp at e1

end
end Go.Proofs.YtjfnhehjhicnoaaDoor
