/-
  The given arguments, opened: from a reading as data to the machine's values.
-/
import Derived.Test.YtjfnhehjhicnoaaDoorVmK
import Derived.ProofKit
import Derived.Deep.Slices
import Derived.OpenShut
namespace Go.Proofs.YtjfnhehjhicnoaaDoor
open Go.RowKit Go.ChangeShapes Go.WideShapes Go.Deep

inductive Ty where
  | i (k : IntKind)
  | b
  | s
  | nil
  | cons (f r : Ty)
  | st (r : Ty)
  | ar (n : Nat) (e : Ty)
  | sl (e : Ty)

def Ty.size : Ty → Nat
  | .i _ => 1
  | .b => 1
  | .s => 1
  | .nil => 0
  | .cons f r => f.size + r.size
  | .st r => r.size
  | .ar n e => n * e.size
  | .sl _ => 1

abbrev Ty.Val : Ty → Type
  | .i _ => Int
  | .b => Bool
  | .s => ByteArray
  | .nil => Unit
  | .cons f r => f.Val × r.Val
  | .st r => r.Val
  | .ar _ e => Nat → e.Val
  | .sl e => Nat × (Nat → e.Val)

def Ty.dflt : (t : Ty) → t.Val
  | .i _ => (0 : Int)
  | .b => false
  | .s => ByteArray.empty
  | .nil => ()
  | .cons f r => (f.dflt, r.dflt)
  | .st r => r.dflt
  | .ar _ e => fun _ => e.dflt
  | .sl e => (0, fun _ => e.dflt)

def Ty.cells : (t : Ty) → t.Val → List L
  | .i k, n => [.v (.int k n)]
  | .b, x => [.v (.bool x)]
  | .s, x => [.v (.string x)]
  | .nil, _ => []
  | .cons f r, x => f.cells x.1 ++ r.cells x.2
  | .st r, x => r.cells x
  | .ar n e, g => (List.range (n * e.size)).map fun i => (e.cells (g (i / e.size))).getD (i % e.size) .un
  | .sl e, x => [.sl e.size x.1 fun k j => (e.cells (x.2 k)).getD j .un]

/-- what is known of every value of the type -/
def Ty.inR : (t : Ty) → t.Val → Prop
  | .i k, n => k.min ≤ (n : Int) ∧ (n : Int) ≤ k.max
  | .b, _ => True
  | .s, x => x.size ≤ maxLen
  | .nil, _ => True
  | .cons f r, x => f.inR x.1 ∧ r.inR x.2
  | .st r, x => r.inR x
  | .ar n e, g => ∀ i, i < n → e.inR (g i)
  | .sl e, x => x.1 ≤ maxLen ∧ ∀ i, i < x.1 → e.inR (x.2 i)

theorem Ty.cells_len : ∀ (t : Ty) (x : t.Val), (t.cells x).length = t.size
  | .i _, _ => rfl
  | .b, _ => rfl
  | .s, _ => rfl
  | .nil, _ => rfl
  | .cons f r, x => by simp only [Ty.cells, Ty.size, List.length_append, Ty.cells_len f, Ty.cells_len r]
  | .st r, x => Ty.cells_len r x
  | .ar n e, g => by simp [Ty.cells, Ty.size]
  | .sl _, _ => rfl

/-- the type's form in the program is t's -/
def Ty.fits (P : Program) : Ty → TypeId ⊕ (List Field × Nat) → Bool
  | .i k, .inl t => (match P.underlying t with | some (.int k') => k' == k | _ => false)
  | .b, .inl t => (match P.underlying t with | some .bool => true | _ => false)
  | .s, .inl t => (match P.underlying t with | some .string => true | _ => false)
  | .nil, .inr x => x.1.isEmpty
  | .cons f r, .inr x => (match x.1 with | y :: ys => y.offset == x.2 && (P.cellsOf y.type == f.size && (f.fits P (.inl y.type) && r.fits P (.inr (ys, x.2 + f.size)))) | _ => false)
  | .st r, .inl t => (match P.underlying t with | some (.struct fs) => P.cellsOf t == r.size && r.fits P (.inr (fs.toList, 0)) | _ => false)
  | .ar n e, .inl t => (match P.underlying t with | some (.array m u) => m == n && (P.cellsOf u == e.size && (P.cellsOf t == n * e.size && (decide (0 < e.size) && e.fits P (.inl u)))) | _ => false)
  | .sl e, .inl t => (match P.underlying t with | some (.slice u) => P.cellsOf u == e.size && (decide (0 < e.size) && e.fits P (.inl u)) | _ => false)
  | _, _ => false

def Rd (w : World) (I : Nat → Prop) (ls : List L) (cs : List Value) : Prop := cs.length = ls.length ∧ ∀ j, j < ls.length → ∃ c, cs[j]? = some c ∧ (ls.getD j .un).rd w I c

theorem Rd.one {w : World} {I : Nat → Prop} {l : L} {c : Value} (h : l.rd w I c) : Rd w I [l] [c] := ⟨rfl, fun j hj => by
  simp only [List.length_cons, List.length_nil] at hj
  obtain rfl : j = 0 := by omega
  exact ⟨c, rfl, h⟩⟩
theorem Rd.append {w : World} {I : Nat → Prop} {ls ms : List L} {cs ds : List Value} (h : Rd w I ls cs) (k : Rd w I ms ds) : Rd w I (ls ++ ms) (cs ++ ds) := by
  refine ⟨by rw [List.length_append, List.length_append, h.1, k.1], fun j hj => ?_⟩
  by_cases hl : j < ls.length
  · obtain ⟨c, e1, e2⟩ := h.2 j hl
    refine ⟨c, by rw [List.getElem?_append_left (by rw [h.1]; exact hl)]; exact e1, ?_⟩
    rw [show (ls ++ ms).getD j .un = ls.getD j .un from by simp [List.getD, List.getElem?_append_left hl]]
    exact e2
  · obtain ⟨c, e1, e2⟩ := k.2 (j - ls.length) (by rw [List.length_append] at hj; omega)
    refine ⟨c, by rw [List.getElem?_append_right (by rw [h.1]; omega), h.1]; exact e1, ?_⟩
    rw [show (ls ++ ms).getD j .un = ms.getD (j - ls.length) .un from by simp [List.getD, List.getElem?_append_right (Nat.le_of_not_lt hl)]]
    exact e2

theorem cell_lt {w : World} {a : Addr} {c : Value} (h : w.cell? a = some c) : a.block < w.heap.size := by
  unfold World.cell? at h
  by_cases hb : a.block < w.heap.size
  · exact hb
  · rw [Array.getElem?_eq_none (by omega)] at h
    simp at h

section
variable {H : Type} {enc : TypeId × Value → H} {P : Program} {w : World} {spare : Nat → Bool} {held : Bool}

def Old (w : World) : Nat → Prop := fun b => b < w.heap.size

def Opens (enc : TypeId × Value → H) (P : Program) (w : World) (spare : Nat → Bool) (held : Bool) (t : Ty) : TypeId ⊕ (List Field × Nat) → Prop
  | .inl ty => ∀ (fuel : Nat) (cs : List Value) (x : DataW H × List MemPlace), DataW.trod enc P w 0 spare held fuel ty cs = some x → ∃ v, t.inR v ∧ Rd w (Old w) (t.cells v) cs
  | .inr y => ∀ (n : Nat) (cs : List Value), cs.length = y.2 + t.size → (∀ (i : Nat) (f : Field), y.1[i]? = some f → ∃ z, DataW.trod enc P w 0 spare held n f.type ((cs.drop f.offset).take (P.cellsOf f.type)) = some z) → ∃ v, t.inR v ∧ Rd w (Old w) (t.cells v) (cs.drop y.2)

theorem wf_int {k : IntKind} {n : Int} (h : (Lit.int k n).wf = true) : k.min ≤ n ∧ n ≤ k.max := by
  simpa [Lit.wf] using h

theorem opens : ∀ (t : Ty) (m : TypeId ⊕ (List Field × Nat)), t.fits P m = true → Opens enc P w spare held t m := by
  intro t
  induction t with
  | i k =>
    intro m hf
    cases m with
    | inr y => simp [Ty.fits] at hf
    | inl ty =>
      intro fuel cs x h
      simp only [Ty.fits] at hf
      split at hf
      · rename_i k' hk
        obtain rfl : k' = k := by simpa using hf
        obtain ⟨n, rfl, _, hw⟩ := DataW.trod_int hk h
        exact ⟨n, wf_int hw, Rd.one ⟨rfl, rfl⟩⟩
      · cases hf
  | b =>
    intro m hf
    cases m with
    | inr y => simp [Ty.fits] at hf
    | inl ty =>
      intro fuel cs x h
      simp only [Ty.fits] at hf
      split at hf
      · rename_i hk
        obtain ⟨n, rfl, _⟩ := DataW.trod_bool hk h
        exact ⟨n, trivial, Rd.one ⟨rfl, rfl⟩⟩
      · cases hf
  | s =>
    intro m hf
    cases m with
    | inr y => simp [Ty.fits] at hf
    | inl ty =>
      intro fuel cs x h
      simp only [Ty.fits] at hf
      split at hf
      · rename_i hk
        obtain ⟨n, rfl, _, hn⟩ := DataW.trod_string hk h
        exact ⟨n, hn, Rd.one ⟨rfl, rfl⟩⟩
      · cases hf
  | nil =>
    intro m hf
    cases m with
    | inl y => simp [Ty.fits] at hf
    | inr y =>
      intro n cs hl h
      refine ⟨(), trivial, ?_⟩
      simp only [Ty.size] at hl
      rw [List.drop_eq_nil_of_le (by omega)]
      exact ⟨rfl, fun j hj => by simp [Ty.cells] at hj⟩
  | cons f r ihf ihr =>
    intro m hf
    cases m with
    | inl y => simp [Ty.fits] at hf
    | inr y =>
      obtain ⟨fs, off⟩ := y
      intro n cs hl h
      simp only [Ty.size] at hl
      cases fs with
      | nil => simp [Ty.fits] at hf
      | cons y ys =>
        simp only [Ty.fits, Bool.and_eq_true, beq_iff_eq] at hf
        obtain ⟨h1, h2, h3, h4⟩ := hf
        obtain ⟨z, hz⟩ := h 0 y rfl
        obtain ⟨v, i1, r1⟩ := ihf (.inl y.type) h3 n _ z hz
        obtain ⟨v', i2, r2⟩ := ihr (.inr (ys, off + f.size)) h4 n cs (by omega) (fun i g hg => h (i + 1) g (by simpa using hg))
        refine ⟨(v, v'), ⟨i1, i2⟩, ?_⟩
        have hs : cs.drop off = (cs.drop off).take f.size ++ cs.drop (off + f.size) := by
          rw [← List.drop_drop, List.take_append_drop]
        simp only
        rw [hs]
        rw [h1, h2] at r1
        exact Rd.append r1 r2
  | st r ih =>
    intro m hf
    cases m with
    | inr y => simp [Ty.fits] at hf
    | inl ty =>
      intro fuel cs x h
      simp only [Ty.fits] at hf
      split at hf
      · rename_i fs hk
        simp only [Bool.and_eq_true, beq_iff_eq] at hf
        obtain ⟨xs, n, _, _, hcl, hxl, hg⟩ := DataW.trod_struct hk h
        obtain ⟨v, i1, r1⟩ := ih (.inr (fs.toList, 0)) hf.2 n cs (by simp only; omega) (fun i f hfi => by
          have hfi' : fs[i]? = some f := by simpa using hfi
          have hi : i < xs.length := by rw [hxl]; exact (Array.getElem?_eq_some_iff.1 hfi').1
          exact ⟨xs[i], (hg i f hfi').trans (List.getElem?_eq_getElem hi)⟩)
        exact ⟨v, i1, (by rw [List.drop_zero] at r1; exact r1)⟩
      · cases hf
  | ar n e ih =>
    intro m hf
    cases m with
    | inr y => simp [Ty.fits] at hf
    | inl ty =>
      intro fuel cs x h
      simp only [Ty.fits] at hf
      split at hf
      · rename_i n' u hk
        simp only [Bool.and_eq_true, beq_iff_eq, decide_eq_true_eq] at hf
        obtain ⟨rfl, h1, h2, h3, h4⟩ := hf
        obtain ⟨xs, m, _, _, hcl, hxl, hg⟩ := DataW.trod_array hk h
        letI : Inhabited e.Val := ⟨e.dflt⟩
        obtain ⟨g, hgv⟩ := choose_lt (α := e.Val) (p := fun i v => e.inR v ∧ Rd w (Old w) (e.cells v) ((cs.drop (i * e.size)).take e.size)) (n := n') (fun i hi => by
          have hz := hg i hi
          rw [List.getElem?_eq_getElem (by omega), h1] at hz
          exact ih (.inl u) h4 m _ _ hz)
        refine ⟨g, fun i hi => (hgv i hi).1, hcl.trans (h2.trans (Ty.cells_len (Ty.ar n' e) g).symm), fun j hj => ?_⟩
        have hj' : j < n' * e.size := by simpa [Ty.cells] using hj
        have hq : j / e.size < n' := Nat.div_lt_of_lt_mul (by rw [Nat.mul_comm]; exact hj')
        have hr : j % e.size < e.size := Nat.mod_lt _ h3
        obtain ⟨c, e1, e2⟩ := (hgv _ hq).2.2 (j % e.size) (by rw [Ty.cells_len]; exact hr)
        rw [List.getElem?_take_of_lt hr, List.getElem?_drop, Nat.mul_comm, Nat.div_add_mod] at e1
        refine ⟨c, e1, ?_⟩
        simp only [Ty.cells, List.getD_eq_getElem?_getD, List.getElem?_map, List.getElem?_range hj', Option.map_some, Option.getD_some]
        rw [List.getD_eq_getElem?_getD] at e2
        exact e2
      · cases hf
  | sl e ih =>
    intro m hf
    cases m with
    | inr y => simp [Ty.fits] at hf
    | inl ty =>
      intro fuel cs x h
      simp only [Ty.fits] at hf
      split at hf
      · rename_i u hk
        simp only [Bool.and_eq_true, beq_iff_eq, decide_eq_true_eq] at hf
        obtain ⟨h1, h3, h4⟩ := hf
        rcases open_slice hk h with ⟨rfl, _⟩ | ⟨a, len, cap, m, n, D, Pl, rfl, _, hlc, hcm, hm, _, hel⟩
        · exact ⟨(0, fun _ => e.dflt), ⟨Nat.zero_le _, fun i hi => absurd hi (Nat.not_lt_zero _)⟩, Rd.one ⟨none, 0, rfl, Nat.le_refl _, Nat.zero_le _, fun hn => absurd hn (Nat.lt_irrefl _)⟩⟩
        · have hlm : len ≤ m := by rw [hm]; split <;> omega
          letI : Inhabited e.Val := ⟨e.dflt⟩
          obtain ⟨g, hgv⟩ := choose_lt (α := e.Val) (p := fun i v => e.inR v ∧ ∀ j, j < e.size → ∃ c, w.cell? (a.add (i * e.size + j)) = some c ∧ ((e.cells v).getD j .un).rd w (Old w) c) (n := len) (fun i hi => by
            obtain ⟨cs', c1, c2⟩ := hel i (by omega)
            obtain ⟨v, i1, r1⟩ := ih (.inl u) h4 n _ _ c2
            rw [h1] at c1
            obtain ⟨_, c3, c4⟩ := World.cells?_some c1
            refine ⟨v, i1, fun j hj => ?_⟩
            obtain ⟨c, e1, e2⟩ := r1.2 j (by rw [Ty.cells_len]; exact hj)
            have := c4 j hj
            rw [Go.Proofs.YtjfnhehjhicnoaaDoor.add_add, e1] at this
            exact ⟨c, this, e2⟩)
          refine ⟨(len, g), ⟨Nat.le_trans hlc hcm, fun i hi => (hgv i hi).1⟩, Rd.one ⟨some a, cap, rfl, hlc, hcm, fun hn => ⟨a, rfl, ?_, fun k hk' j hj => (hgv k hk').2 j hj⟩⟩⟩
          obtain ⟨c, e1, _⟩ := (hgv 0 hn).2 0 h3
          have := cell_lt e1
          rwa [add_block] at this
      · cases hf

/-- an argument's value -/
def Ty.av : (t : Ty) → t.Val → AV
  | .st r, x => .agg ((r.cells x).map .c)
  | .ar n e, x => .agg (((Ty.ar n e).cells x).map .c)
  | t, x => .c ((t.cells x).getD 0 .un)

theorem Rd.denL {I : Nat → Prop} : ∀ {ls : List L} {cs : List Value}, Rd w I ls cs → DenL Asg.zero I w (ls.map .c) cs
  | [], cs, h => by
    have := h.1
    simp only [List.map_nil, DenL]
    exact List.eq_nil_of_length_eq_zero this
  | l :: ls, cs, h => by
    cases cs with
    | nil => have := h.1; simp at this
    | cons c cs =>
      simp only [List.map_cons, DenL]
      refine ⟨c, cs, rfl, ?_, Rd.denL (ls := ls) ⟨by have := h.1; simpa using this, fun j hj => ?_⟩⟩
      · obtain ⟨c', e1, e2⟩ := h.2 0 (by simp)
        simp at e1; subst e1
        simp only [Den]
        simpa using e2
      · obtain ⟨c', e1, e2⟩ := h.2 (j + 1) (by simpa using hj)
        exact ⟨c', by simpa using e1, by simpa using e2⟩

theorem Rd.ones {I : Nat → Prop} : ∀ {ls : List L} {cs : List Value}, Rd w I ls cs → ∀ x ∈ cs, x.oneCell' = true := fun {ls cs} h x hx => by
  obtain ⟨j, hj, rfl⟩ := List.mem_iff_getElem.1 hx
  obtain ⟨c, e1, e2⟩ := h.2 j (by rw [← h.1]; exact hj)
  rw [List.getElem?_eq_getElem hj] at e1
  injection e1 with e1
  rw [e1]
  exact L.rd_one e2

theorem Rd.den1 {t : Ty} {x : t.Val} {v : Value} (hs : t.size = 1) (hv : v.cells.toList = [v]) (h : Rd w (Old w) (t.cells x) v.cells.toList) : Den Asg.zero (Old w) w (.c ((t.cells x).getD 0 .un)) v := by
  rw [hv] at h
  obtain ⟨c, e1, e2⟩ := h.2 0 (by rw [Ty.cells_len, hs]; exact Nat.one_pos)
  simp at e1; subst e1
  simp only [Den]
  exact e2

/-- one argument -/
theorem open_av {t : Ty} {ty : TypeId} (hf : t.fits P (.inl ty) = true) {r : Reach} {b0 : Nat} {v : Value} {d : DataW H} {ps : List MemPlace} (hval : Value.okWide P w r b0 ty v) (hd : DataW.Trod enc P w 0 spare held ty v d ps) :
    ∃ x : t.Val, t.inR x ∧ Den Asg.zero (Old w) w (t.av x) v := by
  obtain ⟨fuel, h⟩ := hd
  obtain ⟨x, hx, hr⟩ := opens (enc := enc) (w := w) (spare := spare) (held := held) t (.inl ty) hf fuel _ _ h
  refine ⟨x, hx, ?_⟩
  cases t with
  | i k =>
    simp only [Ty.fits] at hf
    split at hf
    · rename_i k' hk
      obtain ⟨n, rfl⟩ := okWide_int hk hval
      exact Rd.den1 rfl rfl hr
    · cases hf
  | b =>
    simp only [Ty.fits] at hf
    split at hf
    · rename_i hk
      have : ∃ n, v = .bool n := by
        simp only [Value.okWide, hk, Cell.okWide] at hval
        cases v <;> simp_all [Cell.ok]
      obtain ⟨n, rfl⟩ := this
      exact Rd.den1 rfl rfl hr
    · cases hf
  | s =>
    simp only [Ty.fits] at hf
    split at hf
    · rename_i hk
      obtain ⟨n, rfl⟩ := okWide_string hk hval
      exact Rd.den1 rfl rfl hr
    · cases hf
  | nil => simp [Ty.fits] at hf
  | cons f r => simp [Ty.fits] at hf
  | st q =>
    simp only [Ty.fits] at hf
    split at hf
    · rename_i fs hk
      obtain ⟨cs, rfl, _⟩ := okWide_struct hk hval
      simp only [Ty.av, Den]
      exact ⟨cs.toList, by simp, Rd.denL hr, Rd.ones hr⟩
    · cases hf
  | ar n e =>
    simp only [Ty.fits] at hf
    split at hf
    · rename_i n' u hk
      have : ∃ cs, v = .agg cs := by
        simp only [Value.okWide, hk] at hval
        obtain ⟨cs, h1, _⟩ := hval
        exact ⟨cs, h1⟩
      obtain ⟨cs, rfl⟩ := this
      simp only [Ty.av, Den]
      exact ⟨cs.toList, by simp, Rd.denL hr, Rd.ones hr⟩
    · cases hf
  | sl e =>
    simp only [Ty.fits] at hf
    split at hf
    · rename_i u hk
      obtain ⟨a, len, cap, rfl⟩ := okWide_slice hk hval
      exact Rd.den1 rfl rfl hr
    · cases hf

def Vals : List Ty → Type
  | [] => Unit
  | t :: ts => t.Val × Vals ts
def Vals.inR : (ts : List Ty) → Vals ts → Prop
  | [], _ => True
  | t :: ts, x => t.inR x.1 ∧ Vals.inR ts x.2
def Vals.avs : (ts : List Ty) → Vals ts → List AV
  | [], _ => []
  | t :: ts, x => t.av x.1 :: Vals.avs ts x.2
def fitsAll (P : Program) : List Ty → List TypeId → Bool
  | [], [] => true
  | t :: ts, u :: us => t.fits P (.inl u) && fitsAll P ts us
  | _, _ => false

theorem open_avs {r : Reach} {b0 : Nat} : ∀ (ts : List Ty) (us : List TypeId) (vs : List Value) (ds : List (DataW H)) (ps : List MemPlace), fitsAll P ts us = true → (∀ (j : Nat) t v, us[j]? = some t → vs[j]? = some v → Value.okWide P w r b0 t v) →
    DataW.TrodAll enc P w 0 spare held us vs ds ps → ∃ x : Vals ts, Vals.inR ts x ∧ DenL Asg.zero (Old w) w (Vals.avs ts x) vs := by
  intro ts
  induction ts with
  | nil =>
    intro us vs ds ps hf hv ht
    cases us with
    | cons => simp [fitsAll] at hf
    | nil =>
      cases vs <;> cases ds <;> simp [DataW.TrodAll] at ht
      exact ⟨(), trivial, by simp only [Vals.avs, DenL]⟩
  | cons t ts ih =>
    intro us vs ds ps hf hv ht
    cases us with
    | nil => simp [fitsAll] at hf
    | cons u us =>
      simp only [fitsAll, Bool.and_eq_true] at hf
      cases vs with
      | nil => simp [DataW.TrodAll] at ht
      | cons v vs =>
        cases ds with
        | nil => simp [DataW.TrodAll] at ht
        | cons d ds =>
          simp only [DataW.TrodAll] at ht
          obtain ⟨p, q, h1, h2, _⟩ := ht
          obtain ⟨x, i1, d1⟩ := open_av hf.1 (hv 0 u v rfl rfl) h1
          obtain ⟨y, i2, d2⟩ := ih us vs ds q hf.2 (fun j t v e1 e2 => hv (j + 1) t v (by simpa using e1) (by simpa using e2)) h2
          refine ⟨(x, y), ⟨i1, i2⟩, ?_⟩
          simp only [Vals.avs, DenL]
          exact ⟨v, vs, rfl, d1, d2⟩

theorem stays {P : Program} (hl : laidOutB P = true) {W W' : World} (hb : Below W.heap.size W W') : ∀ (us : List TypeId) (vs : List Value) (ds : List (DataW H)) (ps : List MemPlace), (us.all fun t => P.readableRec t && decide (t < P.types.size)) = true → (∀ x ∈ ps, x.block < W.heap.size) →
    DataW.TrodAll enc P W 0 (fun _ => true) true us vs ds ps → DataW.TrodAll enc P W' 0 (fun b => decide (b < W.heap.size)) true us vs ds ps := by
  intro us
  induction us with
  | nil =>
    intro vs ds ps _ _ h
    cases vs <;> cases ds <;> simp [DataW.TrodAll] at h ⊢
    exact h
  | cons u us ih =>
    intro vs ds ps hr hp h
    simp only [List.all_cons, Bool.and_eq_true, decide_eq_true_eq] at hr
    cases vs with
    | nil => simp [DataW.TrodAll] at h
    | cons v vs =>
      cases ds with
      | nil => simp [DataW.TrodAll] at h
      | cons d ds =>
        simp only [DataW.TrodAll] at h ⊢
        obtain ⟨p, q, h1, h2, rfl⟩ := h
        exact ⟨p, q, Below.trod hl hr.1.1 hr.1.2 h1 hb (fun x hx => hp x (List.mem_append_left _ hx)), ih vs ds q hr.2 (fun x hx => hp x (List.mem_append_right _ hx)) h2, rfl⟩

end
end Go.Proofs.YtjfnhehjhicnoaaDoor
