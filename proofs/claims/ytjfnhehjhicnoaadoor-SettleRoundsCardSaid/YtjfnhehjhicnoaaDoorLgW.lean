/-
  strings.Builder: WriteString and String.
-/
import Derived.Test.YtjfnhehjhicnoaaDoorLgU
import Derived.Test.YtjfnhehjhicnoaaDoorLgO
import Derived.Shelf.Strings.Builder1
namespace Go.Proofs.YtjfnhehjhicnoaaDoor
open Go.RowKit Go.Sort Go.Proofs

abbrev ptB (b : Nat) : Value := .pointer (some ⟨b, 0, none⟩)
theorem bdU1 : Tryd.prog.underlying 163 = some (.pointer 165) := by kernel_rfl
theorem bdU2 : Tryd.prog.underlying 202 = some .unsafePointer := by kernel_rfl
theorem bdSz : (Tryd.prog.info? 165).map (·.size) = some 2 := by kernel_rfl
theorem bdLies : liesAt Tryd.prog Tryd.prog.depth 165 (2 / Tryd.prog.cellsOf 165) 0 165 1 = true := by kernel_rfl
set_option maxHeartbeats 1000000 in
set_option maxRecDepth 100000 in
theorem ccUsed (b : Nat) (w : World) (h0 : w.cell? ⟨b, 0, none⟩ = some (ptB b)) : Calls Tryd.prog 146 #[ptB b] w fun e w' => e = .returned (.tuple #[]) ∧ w' = w := by
  obtain ⟨j, hj, _⟩ := Option.map_eq_some_iff.1 bdSz
  go_enter Tryd.func146, Tryd.ntmps146
  go_wp2
  rw [Lib.run_neq_ptr_same w _ bdU1 hj]
  go_wp2
  go_end0
  exact ⟨rfl, rfl⟩
set_option maxHeartbeats 1000000 in
set_option maxRecDepth 100000 in
theorem ccFresh (b : Nat) (w : World) (h0 : w.cell? ⟨b, 0, none⟩ = some (.pointer none)) (hsh : w.shape? b = some (165, 2)) (hfz : w.frozen? ⟨b, 0, none⟩ = false) :
    Calls Tryd.prog 146 #[ptB b] w fun e w' => e = .returned (.tuple #[]) ∧ w' = w.setCell ⟨b, 0, none⟩ (ptB b) := by
  obtain ⟨j, hj, hjs⟩ := Option.map_eq_some_iff.1 bdSz
  go_enter Tryd.func146, Tryd.ntmps146
  go_wp2
  rw [Lib.run_to_unsafe w ⟨b, 0, none⟩ bdU1 bdU2 hj (by rw [hjs]; decide) hsh (Nat.zero_lt_succ 1)]
  simp only [Result.andThen]
  rw [Oper.upon_value]
  go_wp2
  rw [run_callFunc_extern Tryd.func166 (by kernel_rfl) (by kernel_rfl) (by kernel_rfl) (e := Extern.AbiNoEscape.same) (by kernel_rfl)]
  rw [Lib.run_noEscape]
  simp only [Result.andThen]
  rw [Oper.upon_value]
  go_wp2
  rw [Lib.run_from_unsafe w ⟨b, 0, none⟩ bdU2 bdU1 hj hsh bdLies]
  simp only [Result.andThen]
  rw [Oper.upon_value]
  go_wp2
  go_end0
  exact ⟨rfl, rfl⟩
theorem u8Info : ∃ i : TypeInfo, Tryd.prog.info? 5 = some i ∧ i.zero = some (.int .u8 0) ∧ i.size = 1 ∧ i.bytes = 1 := by
  obtain ⟨d, i, g1, g2, g3, g4, g5, g6⟩ := (e5_ok).get
  exact ⟨i, g3, by first | exact g6 | exact g5 | exact g4, by first | exact g4 | exact g5, by first | exact g5 | exact g6⟩
theorem bsU : Tryd.prog.underlying 108 = some (.slice 5) := by kernel_rfl
theorem stU : Tryd.prog.underlying 9 = some .string := by kernel_rfl
/-- where what is appended to lies -/
theorem app_loc {v v' : Value} {n : Nat} {xs : List Value} {s : ByteArray} {w w' : World} {ty : TypeId} (hown : w.ownsRow 0 5 1 v n xs) (hl : n + s.size ≤ 1000000)
    (hr : (Builtin.append_ #[108, 9] ty #[v, .string s]).run Tryd.prog w = .ok v' w') : v'.ownBlock = v.ownBlock ∨ v'.ownBlock = some w.heap.size := by
  obtain ⟨i, i1, i2, i3, i4⟩ := u8Info
  rcases hown.2 with ⟨rfl, rfl⟩ | ⟨g, cap, cur, rfl, hbg, hg, hnc, hcm, hcs, htake⟩
  · by_cases hm : s.size = 0
    · obtain ⟨v2, w2, h1, _, _, h4⟩ := Lib.run_append_own_string (P := Tryd.prog) w 0 108 9 ty 5 i bsU stU i1 i2 i3 i4 _ _ _ hown s (by unfold maxLen; omega) (by omega) (Nat.zero_le _)
      rw [h1] at hr
      injection hr with hr _
      subst hr
      exact .inl (by rw [h4.2 ⟨rfl, hm⟩])
    · have h1 := run_append_nil_string (P := Tryd.prog) w 108 9 ty 5 i (.int .u8 0) bsU stU i1 i2 s (by omega) (by omega) (by rw [i4]; omega)
      rw [h1] at hr
      injection hr with hr _
      subst hr
      exact .inr rfl
  · by_cases hroom : n + s.size ≤ cap
    · have h1 := Lib.run_append_room_string (P := Tryd.prog) w 108 9 ty 5 i bsU stU i1 i3 g n cap cur hg s hroom (by omega)
      rw [h1] at hr
      injection hr with hr _
      subst hr
      exact .inl rfl
    · have h1 := Lib.run_append_grow_string (P := Tryd.prog) w 108 9 ty 5 i (.int .u8 0) bsU stU i1 i2 ⟨g, 0, none⟩ n cap xs (by rw [i3]; simpa using hown.1) (hown.cells (g := g) rfl) s (by omega) (by omega) (by rw [i4]; exact growslice_fits (by omega) (by omega))
      rw [h1] at hr
      injection hr with hr _
      subst hr
      exact .inr rfl
theorem wpList_app {ops : Array Oper} {rest : List Oper} {o : Oper} {a : Act} {Q : Exit → Act → World → Prop} {w : World} (hgd : o.guard = none) (sl x : Operand)
    (ho : o.op = .call { callee := .builtin .append, args := #[sl, x], argTypes := #[108, 9] }) (v : Value) (n : Nat) (xs : List Value) (hs : a.eval sl = v) (hown : w.ownsRow 0 5 1 v n xs) (s : ByteArray) (hx : a.eval x = .string s) (hl : n + s.size ≤ 1000000)
    (h : ∀ v' w', w'.ownsRow 0 5 1 v' (n + s.size) (xs ++ Lib.strCells s) → w.grownBy w' v.ownBlock → (v'.ownBlock = v.ownBlock ∨ v'.ownBlock = some w.heap.size) → wpList Tryd.prog ops Q rest (a.put o.dst v') w') : wpList Tryd.prog ops Q (o :: rest) a w := by
  obtain ⟨i, i1, i2, i3, i4⟩ := u8Info
  refine wpList_plain hgd fun K hK => ?_
  obtain ⟨v', w', hr, h2, h3, _⟩ := Lib.run_append_own_string (P := Tryd.prog) w 0 108 9 o.type 5 i bsU stU i1 i2 i3 i4 v n xs hown s (by unfold maxLen; omega) (by omega) (Nat.zero_le _)
  unfold Oper.wp execOp
  simp only [ho, resolve, invoke, builtin, Sem.run_bind, Sem.run_pure, Result.andThen_ok, List.map_toArray, List.map_cons, List.map_nil, hs, hx, hr]
  exact hK _ _ (h v' w' h2 h3 (app_loc hown hl hr))
/-- a builder in block b: its buffer and its bytes -/
def bldAt (w : World) (b : Nat) (v : Value) (n : Nat) (xs : List Value) : Prop := w.heap[b]? = some (.cells #[ptB b, v] 165 (0, 0)) ∧ w.ownsRow 0 5 1 v n xs ∧ v.ownBlock ≠ some b
set_option maxHeartbeats 2000000 in
set_option maxRecDepth 100000 in
theorem bldW (b : Nat) (p v : Value) (n : Nat) (xs : List Value) (s : ByteArray) (w : World) (hb : w.heap[b]? = some (.cells #[p, v] 165 (0, 0))) (hp : p = .pointer none ∨ p = ptB b) (hown : w.ownsRow 0 5 1 v n xs) (hne : v.ownBlock ≠ some b) (hl : n + s.size ≤ 1000000) :
    Calls Tryd.prog 121 #[ptB b, .string s] w fun e w' => e = .returned (.tuple #[.int .i64 s.size, .nilIface]) ∧ ∃ v', bldAt w' b v' (n + s.size) (xs ++ Lib.strCells s) ∧ SameF (fun x => x = b ∨ v.ownBlock = some x) w w' ∧ (v'.ownBlock = v.ownBlock ∨ v'.ownBlock = some w.heap.size) := by
  have hlt : b < w.heap.size := (Array.getElem?_eq_some_iff.1 hb).1
  have hcc : Calls Tryd.prog 146 #[ptB b] w fun e w1 => e = .returned (.tuple #[]) ∧ w1.heap[b]? = some (.cells #[ptB b, v] 165 (0, 0)) ∧ SameF (fun x => x = b) w w1 ∧ w1.heap.size = w.heap.size := by
    rcases hp with rfl | rfl
    · refine (ccFresh b w (by rw [Lib.cell_of_heap hb]; rfl) (by simp [World.shape?, hb]) (Lib.frozen_of_heap hb 0)).mono ?_
      rintro e w1 ⟨rfl, rfl⟩
      refine ⟨rfl, ?_, ⟨rfl, rfl, rfl, by simp [World.setCell], fun x hx hn => Below.heap_setCell _ _ _ _ hn⟩, by simp [World.setCell]⟩
      simp [World.setCell, Array.getElem?_modify, hb]
    · refine (ccUsed b w (by rw [Lib.cell_of_heap hb]; rfl)).mono ?_
      rintro e w1 ⟨rfl, rfl⟩
      exact ⟨rfl, hb, SameF.refl _ _, rfl⟩
  have e240 : ∀ args w, (callFunc 146 args).run Tryd.prog w = .ok (.enter 146 args) w := enters_of Tryd.func146 (by kernel_rfl) rfl
  have hc2 : Calls Tryd.prog 146 #[ptB b] w fun e w1 => e = .returned (.tuple #[]) ∧ w1.heap[b]? = some (.cells #[ptB b, v] 165 (0, 0)) ∧ SameF (fun x => x = b) w w1 ∧ w1.heap.size = w.heap.size ∧ w1.ownsRow 0 5 1 v n xs ∧ w1.cell? ⟨b, 0, none⟩ = some (ptB b) ∧ w1.cell? ⟨b, 1, none⟩ = some v := by
    refine hcc.mono ?_
    rintro e w1 ⟨rfl, hbk, hs1, hsz⟩
    refine ⟨rfl, hbk, hs1, hsz, ⟨hown.1, ?_⟩, by rw [Lib.cell_of_heap hbk]; rfl, by rw [Lib.cell_of_heap hbk]; rfl⟩
    rcases hown.2 with h6 | ⟨g, cap, cur, e1, e2, e3, e4⟩
    · exact .inl h6
    · refine .inr ⟨g, cap, cur, e1, e2, ?_, e4⟩
      rw [hs1.block g (Array.getElem?_eq_some_iff.1 e3).1 (fun h => hne (by rw [e1, h]; rfl))]
      exact e3
  clear hcc
  go_enter Tryd.func121, Tryd.ntmps121
  go_wp2_with (first
    | (go_at_fn 146; refine Calls.mono hc2 ?_; rintro e w1 ⟨rfl, hbk, hs1, hsz, hown1, c0, c1⟩)
    | (at_builtin; refine wpList_app rfl _ _ rfl _ _ _ rfl hown1 s rfl hl ?_))
  intro v' w2 hown' hgrow hloc
  have hb2 : w2.heap[b]? = some (.cells #[ptB b, v] 165 (0, 0)) := by
    rw [hgrow.block b (by omega) (fun e => hne e.symm)]
    exact hbk
  have d0 : w2.cell? ⟨b, 0, none⟩ = some (ptB b) := by rw [Lib.cell_of_heap hb2]; rfl
  have d1 : w2.cell? ⟨b, 1, none⟩ = some v := by rw [Lib.cell_of_heap hb2]; rfl
  have f1 : w2.frozen? ⟨b, 1, none⟩ = false := Lib.frozen_of_heap hb2 1
  obtain ⟨ao, n', cap, rfl⟩ : ∃ ao n' cap, v' = .slice ao n' cap := by
    rcases hown'.2 with ⟨hv, _⟩ | ⟨g, cap, cur, hv, _⟩
    · exact ⟨_, _, _, hv⟩
    · exact ⟨_, _, _, hv⟩
  go_wp2
  go_ret2
  have hne' : (Value.slice ao n' cap).ownBlock ≠ some b := by
    rcases hloc with h | h
    · rw [h]; exact hne
    · rw [h]; intro he; injection he with he; omega
  refine ⟨rfl, .slice ao n' cap, ⟨by simp [World.setCell, Array.getElem?_modify, hb2], ⟨hown'.1, ?_⟩, hne'⟩, ⟨hgrow.os.trans hs1.os, hgrow.tape.trans hs1.tape, hgrow.output.trans hs1.output, ?_, fun x hx hn => ?_⟩, hloc⟩
  · rcases hown'.2 with h6 | ⟨g, cap', cur, e1, e2, e3, e4⟩
    · exact .inl h6
    · refine .inr ⟨g, cap', cur, e1, e2, ?_, e4⟩
      rw [← e3]
      exact Below.heap_setCell _ _ _ _ (fun h => hne' (by rw [e1]; exact congrArg some h))
  · have := hgrow.size
    simp [World.setCell]
    omega
  · refine (Below.heap_setCell _ _ _ _ (fun h => hn (.inl h))).trans ?_
    rw [hgrow.block x (by omega) (fun h => hn (.inr h.symm))]
    exact hs1.block x hx fun h => hn (.inl h)
/-- the builder as the machine's object -/
theorem bldRel_at {w : World} {b : Nat} {v : Value} {l : List UInt8} {blk : Option Nat} {sub : List Nat} (h : bldAt w b v l.length (bcs l)) (hb : blk = some b) (hs : ∀ g, v.ownBlock = some g → sub = [g]) : BldRel w blk sub 165 5 b l :=
  ⟨hb, ptB b, v, h.1, .inr rfl, h.2.1, h.2.2, hs⟩
abbrev bdO (b : Nat) (l : List UInt8) : OB := .bld 165 5 b l
theorem wrS (b : Nat) (l : List UInt8) (s : ByteArray) (hl : l.length + s.size ≤ 1000000) : FnM Tryd.prog 121 [bdO b l] [.c (.v (ptB b)), strV s] (fun obs r => obs = [.dead, bdO b (l ++ s.data.toList)] ∧ r = .tup [intV s.size, .c (.v .nilIface)]) := by
  refine ⟨⟨_, Tryd.func121, by decide, rfl⟩, fun w I σ0 vs hst hd => ?_⟩
  simp only [DenL, Den, strV, L.rd] at hd
  obtain ⟨u0, us, rfl, ⟨rfl, _⟩, u1, us', rfl, ⟨rfl, _⟩, rfl⟩ := hd
  have hobj : BldRel w (σ0.blk 0) (σ0.sub 0) 165 5 b l := hst.obj 0 _ rfl
  obtain ⟨h0, p, v, h1, h2, h3, h4, h5⟩ := hobj
  have hbw : b < w.heap.size := (Array.getElem?_eq_some_iff.1 h1).1
  have hcnt : σ0.cnt = 1 := hst.cnt
  refine (bldW b p v l.length (bcs l) s w h1 h2 h3 h4 hl).mono ?_
  rintro e w' ⟨rfl, v', hat, hsame, hloc⟩
  have hF : ∀ x, x < w.heap.size → ¬ ownF w σ0 [bdO b l] x → ¬ (x = b ∨ v.ownBlock = some x) := fun x hx hn h => hn (.inr ⟨0, _, rfl, rfl, by
    rcases h with rfl | h
    · exact .inl h0
    · exact .inr ⟨0, by rw [h5 x h]; rfl⟩⟩)
  let sub' : List Nat := match v'.ownBlock with | some g => [g] | none => []
  let σ : Asg := ⟨2, fun i => if i = 1 then some b else σ0.blk i, fun i => σ0.hdr i, fun i => if i = 1 then sub' else σ0.sub i⟩
  have hle : σ0.le σ := ⟨by rw [hcnt]; exact (by decide : 1 ≤ 2), fun i hi => if_neg (by omega), fun i hi => rfl, fun i hi => if_neg (by omega)⟩
  have hsub : ∀ g, v'.ownBlock = some g → sub' = [g] := fun g hg => by simp only [sub', hg]
  have hhas : ∀ x, σ.has 1 x → x = b ∨ v'.ownBlock = some x := fun x hx => by
    rcases hx with hx | ⟨k, hx⟩
    · left
      have : some b = some x := hx
      injection this with this
      exact this.symm
    · right
      have hx : sub'[k]? = some x := hx
      simp only [sub'] at hx
      split at hx
      · rename_i g hg
        cases k with
        | zero =>
          simp at hx
          rw [hg, hx]
        | succ k => simp at hx
      · simp at hx
  have hcs : bcs (l ++ s.data.toList) = bcs l ++ Lib.strCells s := by
    unfold bcs Lib.strCells
    rw [List.map_append]
  have hlen : (l ++ s.data.toList).length = l.length + s.size := by
    rw [List.length_append, Array.length_toList]
    rfl
  have hbl : bldAt w' b v' (l ++ s.data.toList).length (bcs (l ++ s.data.toList)) := by
    rw [hlen, hcs]
    exact hat
  have hb' : b < w'.heap.size := Nat.lt_of_lt_of_le hbw hsame.size
  have hgl : ∀ g, v'.ownBlock = some g → g < w'.heap.size := fun g hg => by
    rcases hat.2.1.2 with ⟨h6, _⟩ | ⟨g', cap, cur, e1, e2, e3, e4⟩
    · rw [h6] at hg; cases hg
    · rw [e1] at hg
      have hg : some g' = some g := hg
      injection hg with hg
      subst hg
      exact (Array.getElem?_eq_some_iff.1 e3).1
  refine ⟨_, σ, I, [.dead, bdO b (l ++ s.data.toList)], .tup [intV s.size, .c (.v .nilIface)], rfl, ⟨rfl, rfl⟩, ⟨hsame.os, hsame.tape, hsame.output, hsame.size, fun x hx hn => hsame.block x hx (hF x hx hn)⟩, fun _ h => h, fun _ h => .inl h, ⟨rfl, fun x hx => Nat.lt_of_lt_of_le (hst.imm x hx) hsame.size, fun i o e => ?_, fun i o x e hlv hx => ?_, fun i j oi oj x ei ej li lj hi hj => ?_⟩, ?_, hle⟩
  · match i, e with
    | 0, e => injection e with e; subst e; trivial
    | 1, e =>
      injection e with e
      subst e
      exact bldRel_at hbl rfl hsub
  · match i, e with
    | 0, e => injection e with e; subst e; cases hlv
    | 1, e =>
      rcases hhas x hx with rfl | hg
      · exact ⟨.inr ⟨0, _, rfl, rfl, .inl h0⟩, (hst.freshH 0 _ x rfl rfl (.inl h0)).2.1, hb'⟩
      · rcases hloc with hl' | hl'
        · have hgv : v.ownBlock = some x := by rw [← hl', hg]
          have hh : σ0.has 0 x := .inr ⟨0, by rw [h5 x hgv]; rfl⟩
          exact ⟨.inr ⟨0, _, rfl, rfl, hh⟩, (hst.freshH 0 _ x rfl rfl hh).2.1, hgl x hg⟩
        · have hxe : x = w.heap.size := by
            rw [hg] at hl'
            injection hl'
          exact ⟨.inl (by omega), fun hI => by have := hst.imm x hI; omega, hgl x hg⟩
  · match i, j, ei, ej with
    | 0, _, ei, _ => injection ei with ei; subst ei; cases li
    | 1, 0, _, ej => injection ej with ej; subst ej; cases lj
    | 1, 1, _, _ => rfl
  · simp only [Den, DenL, intV, L.rd]
    exact ⟨_, rfl, _, _, rfl, ⟨rfl, rfl⟩, _, _, rfl, ⟨rfl, rfl⟩, rfl⟩

set_option maxHeartbeats 2000000 in
set_option maxRecDepth 100000 in
theorem bldS (b g cap : Nat) (p : Value) (cur : Array Value) (l : List UInt8) (w : World) (hbk : w.heap[b]? = some (.cells #[p, .slice (some ⟨g, 0, none⟩) l.length cap] 165 (0, 0))) (hg : w.heap[g]? = some (.cells cur 5 (0, 0)))
    (hnc : l.length ≤ cap) (hcm : cap ≤ maxLen) (hcs : cur.size = cap * 1) (hl0 : l.length ≠ 0) (hcell : ∀ j x, l[j]? = some x → w.cell? ((⟨g, 0, none⟩ : Addr).add j) = some (.int .u8 x.toNat)) :
    Calls Tryd.prog 122 #[ptB b] w fun e w' => e = .returned (.string ⟨l.toArray⟩) ∧ w' = w.drew.freeze ⟨g, 0, none⟩ l.length := by
  have c1 : w.drew.cell? ⟨b, 1, none⟩ = some (.slice (some ⟨g, 0, none⟩) l.length cap) := by
    have : w.drew.heap[b]? = some (.cells #[p, .slice (some ⟨g, 0, none⟩) l.length cap] 165 (0, 0)) := hbk
    rw [Lib.cell_of_heap this]; rfl
  have hSD : (Builtin.unsafeSliceData_ #[108] 186 #[.slice (some ⟨g, 0, none⟩) l.length cap]).run Tryd.prog w.drew = .ok (.pointer (some ⟨g, 0, none⟩)) w.drew :=
    Lib.run_unsafeSliceData_row _ _ _ _ _ _ (by omega)
  have hUS : (Builtin.unsafeString_ #[186, 3] 9 #[.pointer (some ⟨g, 0, none⟩), .int .i64 l.length]).run Tryd.prog w.drew = .ok (.string ⟨l.toArray⟩) (w.drew.freeze ⟨g, 0, none⟩ l.length) := by
    refine Lib.run_unsafeString_row w.drew 186 3 9 5 (by kernel_rfl) (by kernel_rfl) g cur.size (by have hg' : w.drew.heap[g]? = some (.cells cur 5 (0, 0)) := hg; simp [World.shape?, hg']) l (fun h => hl0 (by rw [h]; rfl)) (by omega) (by unfold maxLen at hcm; omega) ?_
    exact hcell
  have mixed := mixed
  go_enter Tryd.func122, Tryd.ntmps122
  go_wp2
  go_region_o
  all_goals (go_wp2; go_ret; exact ⟨rfl, rfl⟩)

theorem freeze_same (w : World) (g n : Nat) : SameF (fun x => x = g) w (w.drew.freeze ⟨g, 0, none⟩ n) := by
  unfold World.freeze
  split
  · exact ⟨rfl, rfl, rfl, Nat.le_refl _, fun _ _ _ => rfl⟩
  · refine ⟨rfl, rfl, rfl, ?_, fun x hx hn => ?_⟩
    · show w.heap.size ≤ (w.heap.modify g _).size
      simp
    · show (w.heap.modify g _)[x]? = w.heap[x]?
      rw [Array.getElem?_modify, if_neg (fun h => hn h.symm)]
theorem stS (b : Nat) (l : List UInt8) (h0 : l ≠ []) : FnM Tryd.prog 122 [bdO b l] [.c (.v (ptB b))] (fun obs r => obs = [.dead] ∧ r = strV ⟨l.toArray⟩) := by
  refine ⟨⟨_, Tryd.func122, by decide, rfl⟩, fun w I σ0 vs hst hd => ?_⟩
  simp only [DenL, Den, L.rd] at hd
  obtain ⟨u0, us, rfl, ⟨rfl, _⟩, rfl⟩ := hd
  have hobj : BldRel w (σ0.blk 0) (σ0.sub 0) 165 5 b l := hst.obj 0 _ rfl
  obtain ⟨hb, p, v, h1, h2, h3, h4, h5⟩ := hobj
  have hl0 : l.length ≠ 0 := fun h => h0 (List.eq_nil_of_length_eq_zero h)
  obtain ⟨g, cap, cur, rfl, _, hg, hnc, hcm, hcs, _⟩ : ∃ g cap cur, v = .slice (some ⟨g, 0, none⟩) l.length cap ∧ 0 ≤ g ∧ w.heap[g]? = some (.cells cur 5 (0, 0)) ∧ l.length ≤ cap ∧ cap ≤ maxLen ∧ cur.size = cap * 1 ∧ cur.toList.take (l.length * 1) = bcs l := by
    rcases h3.2 with ⟨_, hz⟩ | ⟨g, cap, cur, hv, r⟩
    · exact absurd hz hl0
    · exact ⟨g, cap, cur, hv, r⟩
  refine (bldS b g cap p cur l w h1 hg hnc hcm hcs hl0 fun j x hj => h3.cells (g := g) rfl j _ (by simp [bcs, hj])).mono ?_
  rintro e w' ⟨rfl, rfl⟩
  have hs := freeze_same w g l.length
  have hF : ∀ x, ¬ ownF w σ0 [bdO b l] x → ¬ x = g := fun x hn h => hn (.inr ⟨0, _, rfl, rfl, .inr ⟨0, by rw [h5 g rfl, h]; rfl⟩⟩)
  refine ⟨_, σ0, I, [.dead], strV ⟨l.toArray⟩, rfl, ⟨rfl, rfl⟩, ⟨hs.os, hs.tape, hs.output, hs.size, fun x hx hn => hs.block x hx (hF x hn)⟩, fun _ h => h, fun _ h => .inl h, ⟨hst.cnt, fun x hx => Nat.lt_of_lt_of_le (hst.imm x hx) hs.size, fun i o e => ?_, fun i o x e hlv hx => ?_, fun i j oi oj x ei ej li lj hi hj => ?_⟩, ?_, Asg.le_refl _⟩
  · match i, e with
    | 0, e => injection e with e; subst e; trivial
  · match i, e with
    | 0, e => injection e with e; subst e; cases hlv
  · match i, ei with
    | 0, ei => injection ei with ei; subst ei; cases li
  · simp only [strV, Den, L.rd]
    exact ⟨trivial, rfl⟩
end Go.Proofs.YtjfnhehjhicnoaaDoor
