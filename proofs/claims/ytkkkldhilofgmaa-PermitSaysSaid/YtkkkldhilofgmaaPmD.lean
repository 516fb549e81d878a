/-
  slices.Delete of one paper, in its block.
-/
import Derived.Shelf.RegionOpenPlain
import Derived.WalkKit
import Derived.Deep.LoopGhost
import Derived.Deep.RegionLaw
import Derived.Lib.Walk
import Derived.Sort.WalkB12
import Derived.Lib.SliceRun
import Derived.Test.YtkkkldhilofgmaaPmB
namespace Go.Proofs.Ytkkkldhilofgmaa
open Go.Shelf Go.RowKit Go.Lib Go.Sort Go.Proofs

theorem run_clear1 {P : Program} (w : World) (t e ty : TypeId) (z : Value) (ht : P.underlying t = some (.slice e)) (hv : ∀ w, (zeroValue e).run P w = .ok z w) (h1 : ∀ v ∈ z.cells.toList, v.oneCell' = true) (b o c : Nat)
    (hc : ∀ j, j < z.cells.toList.length → (w.cell? ⟨b, o + j, none⟩).isSome = true) (hf : ∀ j, j < z.cells.toList.length → w.frozen? ⟨b, o + j, none⟩ = false) :
    (Builtin.clear_ #[t] ty #[.slice (some ⟨b, o, none⟩) 1 c]).run P w = .ok (.tuple #[]) (w.setCells b o z.cells.toList) := by
  have hzc : (Builtin.zeroCells z.cells 1).toList = z.cells.toList := by
    simp [Builtin.zeroCells]
    apply List.ext_getElem
    · simp
    · intro i h1 h2
      simp at h1 h2
      simp [Nat.mod_eq_of_lt h2, h2]
  have hst := run_storeCells_cells (P := P) b o z.cells.toList 0 w (by simpa using hc) (by simpa using hf) h1
  simp only [Nat.add_zero] at hst
  simp [Builtin.clear_, run_underlying ht, hv, hzc, hst]
theorem setCells_ne (b : Nat) : ∀ (vs : List Value) (o : Nat) (w : World) (x : Nat), x ≠ b → (w.setCells b o vs).heap[x]? = w.heap[x]?
  | [], _, _, _, _ => rfl
  | v :: r, o, w, x, h => by
    rw [World.setCells, setCells_ne b r (o + 1) _ x h]
    show (w.heap.modify b _)[x]? = _
    rw [Array.getElem?_modify, if_neg (fun e => h e.symm)]
theorem setCells_rest (b : Nat) : ∀ (vs : List Value) (o : Nat) (w : World), (w.setCells b o vs).os = w.os ∧ (w.setCells b o vs).tape = w.tape ∧ (w.setCells b o vs).output = w.output ∧ (w.setCells b o vs).heap.size = w.heap.size
  | [], _, _ => ⟨rfl, rfl, rfl, rfl⟩
  | v :: r, o, w => by
    rw [World.setCells]
    obtain ⟨h1, h2, h3, h4⟩ := setCells_rest b r (o + 1) (w.setCell ⟨b, o, none⟩ v)
    refine ⟨h1, h2, h3, h4.trans ?_⟩
    show (w.heap.modify b _).size = _
    rw [Array.size_modify]
theorem setCells_at (b : Nat) : ∀ (vs : List Value) (o : Nat) (w : World) (cur : Array Value) (e : TypeId) (fr : Nat × Nat), w.heap[b]? = some (.cells cur e fr) → o + vs.length ≤ cur.size →
    ∃ cur', (w.setCells b o vs).heap[b]? = some (.cells cur' e fr) ∧ cur'.size = cur.size ∧ ∀ m, cur'[m]? = if o ≤ m ∧ m < o + vs.length then vs[m - o]? else cur[m]?
  | [], o, w, cur, e, fr, h, _ => ⟨cur, h, rfl, fun m => (if_neg (by simp only [List.length_nil]; omega)).symm⟩
  | v :: r, o, w, cur, e, fr, h, hl => by
    have hl' : o + 1 + r.length ≤ cur.size := by simp at hl; omega
    have h1 : (w.setCell ⟨b, o, none⟩ v).heap[b]? = some (.cells (cur.setIfInBounds o v) e fr) := by
      show (w.heap.modify b _)[b]? = _
      rw [Array.getElem?_modify, if_pos rfl, h]
      rfl
    obtain ⟨cur', c1, c2, c3⟩ := setCells_at b r (o + 1) (w.setCell ⟨b, o, none⟩ v) _ e fr h1 (by simpa using hl')
    refine ⟨cur', c1, by simpa using c2, fun m => ?_⟩
    rw [c3]
    by_cases hm : m = o
    · subst hm
      rw [if_neg (by omega), if_pos ⟨Nat.le_refl _, by simp⟩, Nat.sub_self, Array.getElem?_setIfInBounds, if_pos rfl, if_pos (by simp at hl; omega)]
      rfl
    · by_cases h2 : o + 1 ≤ m ∧ m < o + 1 + r.length
      · rw [if_pos h2, if_pos ⟨by omega, by simp; omega⟩]
        have h3 : m - o = (m - (o + 1)) + 1 := by omega
        rw [h3]
        rfl
      · rw [if_neg h2, if_neg (by simp; omega), Array.getElem?_setIfInBounds, if_neg (fun e => hm e.symm)]
/-- what is moved: the cells behind element i -/
def delNews (F : Nat → Nat → Value) (i n : Nat) : List Value := (List.range ((n - (i + 1)) * 3)).map fun t => F (i + 1 + t / 3) (t % 3)
theorem delNews_len (F : Nat → Nat → Value) (i n : Nat) : (delNews F i n).length = (n - (i + 1)) * 3 := by simp [delNews]
theorem isSome_setCells' (b : Nat) : ∀ (vs : List Value) (o : Nat) (w : World) (q : Addr), (w.cell? q).isSome = true → ((w.setCells b o vs).cell? q).isSome = true
  | [], _, _, _, h => h
  | v :: r, o, w, q, h => by
    rw [World.setCells]
    refine isSome_setCells' b r (o + 1) _ q ?_
    by_cases e : (⟨b, o, none⟩ : Addr) = q
    · subst e
      obtain ⟨u, hu⟩ := Option.isSome_iff_exists.1 h
      rw [World.cell?_setCell_same _ _ _ hu]
      rfl
    · rw [World.cell?_setCell_other _ _ _ _ e]
      exact h
def pmZ : List Value := [.int .i64 0, .string ByteArray.empty, .slice none 0 0]
set_option maxHeartbeats 4000000 in
set_option maxRecDepth 1000000 in
theorem delRaw (blk cap i j n : Nat) (F : Nat → Nat → Value) (w : World) (hi : i < n) (hj : j = i + 1) (hcap : n ≤ cap) (hm : cap ≤ 9223372036854775807) (hc : ∀ t, t < n * 3 → w.cell? ⟨blk, t, none⟩ = some (F (t / 3) (t % 3))) (hf : ∀ t, t < n * 3 → w.frozen? ⟨blk, t, none⟩ = false) (h1 : ∀ k j, k < n → j < 3 → (F k j).oneCell' = true) :
    Calls Try.prog 44 #[.slice (some ⟨blk, 0, none⟩) n cap, .int .i64 i, .int .i64 j] w fun e w' => e = .returned (.slice (some ⟨blk, 0, none⟩) (n - 1) cap) ∧ w' = (w.drew.setCells blk (i * 3) (delNews F i n)).setCells blk ((n - 1) * 3) pmZ := by
  obtain ⟨news, hnews⟩ : ∃ news, news = delNews F i n := ⟨_, rfl⟩
  have hlen : news.length = (n - (i + 1)) * 3 := by rw [hnews, delNews_len]
  have hget : ∀ t, t < (n - (i + 1)) * 3 → news[t]? = some (F (i + 1 + t / 3) (t % 3)) := by
    intro t ht
    rw [hnews, delNews]
    simp [ht]
  obtain ⟨A, hA, hsrc⟩ : ∃ A : Addr, (if cap = j then some (⟨blk, 0, none⟩ : Addr) else some ⟨blk, j * 3, none⟩) = some A ∧ Hid (∀ t u, news[t]? = some u → w.drew.cell? (A.add t) = some u) := by
    by_cases h : cap = j
    · refine ⟨⟨blk, 0, none⟩, by simp [h], fun t u hu => ?_⟩
      have h0 : news.length = 0 := by rw [hlen]; omega
      rw [List.length_eq_zero_iff.1 h0] at hu
      simp at hu
    · refine ⟨⟨blk, j * 3, none⟩, by simp [h], fun t u hu => ?_⟩
      have ht : t < (n - (i + 1)) * 3 := by
        have := (List.getElem?_eq_some_iff.1 hu).1
        rwa [hlen] at this
      rw [hget t ht] at hu
      rw [Addr.add_lit]
      have h3 := hc (j * 3 + t) (by omega)
      rw [show (j * 3 + t) / 3 = i + 1 + t / 3 by omega, show (j * 3 + t) % 3 = t % 3 by omega] at h3
      exact h3.trans hu
  have s1 : Hid (news.length = (n - j) * 3) := by rw [hj]; exact hlen
  have s2 : Hid (∀ u ∈ news, u.oneCell' = true) := by
    intro u hu
    rw [hnews, delNews] at hu
    obtain ⟨t, ht, rfl⟩ := List.mem_map.1 hu
    have ht := List.mem_range.1 ht
    exact h1 _ _ (by omega) (Nat.mod_lt _ (by decide))
  have s3 : Hid (∀ t, t < news.length → (w.drew.cell? ⟨blk, 0 + i * 3 + t, none⟩).isSome = true ∧ w.drew.frozen? ⟨blk, 0 + i * 3 + t, none⟩ = false) := by
    intro t ht
    rw [hlen] at ht
    rw [Nat.zero_add]
    exact ⟨by show (w.cell? _).isSome = true; rw [hc (i * 3 + t) (by omega)]; rfl, hf (i * 3 + t) (by omega)⟩
  obtain ⟨W1, hW1⟩ : ∃ W1, W1 = w.drew.setCells blk (0 + i * 3) news := ⟨_, rfl⟩
  have hcl : ∀ ty, (Builtin.clear_ #[77] ty #[.slice (some ⟨blk, (n - 1) * 3, none⟩) 1 (cap - (n - 1))]).run Try.prog W1 = .ok (.tuple #[]) (W1.setCells blk ((n - 1) * 3) pmZ) := fun ty => by
    refine run_clear1 W1 77 82 ty (.agg #[.int .i64 0, .string ByteArray.empty, .slice none 0 0]) (by kernel_rfl) Try.zeroValue82 (fun v hv => ?_) blk ((n - 1) * 3) _ (fun j hj => ?_) (fun j hj => ?_)
    · simp [Value.cells] at hv
      rcases hv with rfl | rfl | rfl <;> rfl
    · have hj : j < 3 := hj
      rw [hW1]
      refine isSome_setCells' blk _ _ _ _ ?_
      show (w.cell? _).isSome = true
      rw [hc _ (by omega)]
      rfl
    · have hj : j < 3 := hj
      rw [hW1, World.frozen?_setCells]
      exact hf _ (by omega)
  have hW : Hid (W1 = w.drew.setCells blk (0 + i * 3) news) := hW1
  have hic : i ≤ cap := by omega
  have hjc : j ≤ cap := by omega
  have hX : Aside (W1 = w.drew.setCells blk (i * 3) (delNews F i n)) := by rw [hW1, hnews, Nat.zero_add]; rfl
  have hlt : i < j := by omega
  have hjn : j ≤ n := by omega
  have hcl' : ∀ ty, (Builtin.clear_ #[77] ty #[.slice (some ⟨blk, (i + (n - j)) * 3, none⟩) (n - (i + (n - j))) (cap - (i + (n - j)))]).run Try.prog W1 = .ok (.tuple #[]) (W1.setCells blk ((n - 1) * 3) pmZ) := by
    rw [show n - (i + (n - j)) = 1 by omega, show i + (n - j) = n - 1 by omega]
    exact hcl
  have hJ : Hid (j = i + 1) := hj
  clear hj hcl
  have hmix : Try.prog.follows .mixedOrders = true := mixed
  clear hW1 hget hnews hlen hc hf h1
  go_enter Try.func44, Try.ntmps44
  go_wp2_with fail
  go_region_law_o (refine step_append_room rfl (.tmp 22) (.tmp 25) 77 rfl 82 Try.t82 3 (by kernel_rfl) (by kernel_rfl) rfl blk 0 i cap (by simp [Act.eval, Act.put]) A (n - j) (cap - j) news (by simp [Act.eval, Act.put]) s1.out hsrc.out s2.out (by omega) s3.out ?_; rw [← hW.out])
  go_wp2
  go_ret
  refine ⟨by rw [show n - 1 = i + (n - j) by have := hJ.out; omega]; rfl, ?_⟩
  rw [← hX.out]
def skN {α : Type} (f : Nat → α) (i k : Nat) : α := f (if k < i then k else k + 1)
def Pap.del (p : Pap) (i : Nat) : Pap := ⟨p.n - 1, skN p.nu i, skN p.ho i, skN p.dl i, skN p.dv i⟩
theorem cDel (p : Pap) (i k j : Nat) : cPap (p.del i) k j = cPap p (if k < i then k else k + 1) j := rfl
theorem pmDel (p : Pap) (i : Nat) (hi : i < p.n) : FnM Try.prog 44 [paR p] [.own 0, intV i, intV (i + 1)] (fun obs r => obs = [.dead, paR (p.del i)] ∧ r = .own 1) := by
  refine ⟨⟨_, Try.func44, by decide, rfl⟩, fun w I σ0 vs hst hd => ?_⟩
  simp only [DenL, Den, intV, L.rd] at hd
  obtain ⟨u0, us, rfl, ⟨hc0, rfl, hone⟩, u1, us', rfl, ⟨rfl, _⟩, u2, us'', rfl, ⟨rfl, _⟩, rfl⟩ := hd
  have ho : ([paR p] : List OB)[0]? = some (paR p) := rfl
  have hrow := (hst.obj 0 _ ho).1
  obtain ⟨g, cap, cur, xs, a1, a2, a3, a4, a5, a6, a7, a8, a9, a10, a11⟩ := hrow.at (by omega)
  have hfr := hst.fresh 0 _ g ho rfl a2
  have hown : (σ0.hdr 0).ownBlock = σ0.blk 0 := by rw [a1, a2]; rfl
  have hxs : ∀ t, t < p.n * 3 → ∃ u, xs[t]? = some u ∧ u.oneCell' = true := fun t ht => by
    have h1 : t < xs.length := by omega
    exact ⟨xs[t], List.getElem?_eq_getElem h1, a9 _ (List.getElem_mem h1)⟩
  have hF : ∀ t, t < p.n * 3 → xs[t]? = some ((fun k j => (xs[k * 3 + j]?).getD undef) (t / 3) (t % 3)) := fun t ht => by
    obtain ⟨u, u1, _⟩ := hxs t ht
    show _ = some ((xs[t / 3 * 3 + t % 3]?).getD undef)
    rw [show t / 3 * 3 + t % 3 = t by omega, u1]
    rfl
  have hcon := delRaw g cap i (i + 1) p.n (fun k j => (xs[k * 3 + j]?).getD undef) w hi rfl a4 a5 (fun t ht => a11 t _ (hF t ht)) (fun t ht => by simp [World.frozen?, a3]) (fun k j hk hj => by
    obtain ⟨u, u1, u2⟩ := hxs (k * 3 + j) (by omega)
    show ((xs[k * 3 + j]?).getD undef).oneCell' = true
    rw [u1]
    exact u2)
  rw [a1]
  refine hcon.mono ?_
  rintro e' w' ⟨rfl, rfl⟩
  have hnl := delNews_len (fun k j => (xs[k * 3 + j]?).getD undef) i p.n
  obtain ⟨r1, r2, r3, r4⟩ := setCells_rest g (delNews (fun k j => (xs[k * 3 + j]?).getD undef) i p.n) (i * 3) w.drew
  obtain ⟨q1, q2, q3, q4⟩ := setCells_rest g pmZ ((p.n - 1) * 3) (w.drew.setCells g (i * 3) (delNews (fun k j => (xs[k * 3 + j]?).getD undef) i p.n))
  have hne : ∀ x, x ≠ g → ((w.drew.setCells g (i * 3) (delNews (fun k j => (xs[k * 3 + j]?).getD undef) i p.n)).setCells g ((p.n - 1) * 3) pmZ).heap[x]? = w.heap[x]? := fun x hx => (setCells_ne g _ _ _ x hx).trans (setCells_ne g _ _ _ x hx)
  have hcap3 : p.n * 3 ≤ cur.size := by rw [a6]; omega
  obtain ⟨cur1, c1, c2, c3⟩ := setCells_at g (delNews (fun k j => (xs[k * 3 + j]?).getD undef) i p.n) (i * 3) w.drew cur _ _ a3 (by rw [hnl]; omega)
  obtain ⟨cur2, d1, d2, d3⟩ := setCells_at g pmZ ((p.n - 1) * 3) _ cur1 _ _ c1 (by rw [c2]; show (p.n - 1) * 3 + 3 ≤ _; omega)
  have hcell : ∀ k, k < p.n - 1 → ∀ j, j < 3 → cur2[k * 3 + j]? = xs[(if k < i then k else k + 1) * 3 + j]? := fun k hk j hj => by
    rw [d3, if_neg (by omega), c3, hnl]
    by_cases h : k < i
    · rw [if_neg (by omega), if_pos h, ← a7, List.getElem?_take_of_lt (by omega), Array.getElem?_toList]
    · rw [if_pos (by omega), if_neg h]
      unfold delNews
      rw [List.getElem?_map, List.getElem?_range (by omega)]
      show some ((xs[(i + 1 + (k * 3 + j - i * 3) / 3) * 3 + (k * 3 + j - i * 3) % 3]?).getD undef) = _
      rw [show (i + 1 + (k * 3 + j - i * 3) / 3) * 3 + (k * 3 + j - i * 3) % 3 = (k + 1) * 3 + j by omega]
      obtain ⟨u, u1, _⟩ := hxs ((k + 1) * 3 + j) (by omega)
      rw [u1]
      rfl
  have htk : ∀ m, m < (p.n - 1) * 3 → (cur2.toList.take ((p.n - 1) * 3))[m]? = cur2[m]? := fun m hm => by
    rw [List.getElem?_take_of_lt hm, Array.getElem?_toList]
  generalize (w.drew.setCells g (i * 3) (delNews (fun k j => (xs[k * 3 + j]?).getD undef) i p.n)).setCells g ((p.n - 1) * 3) pmZ = w' at *
  have hsize : w'.heap.size = w.heap.size := q4.trans r4
  have hkI : Keeps I w w' := fun b hb => hne b (fun e => hfr.2.1 (e ▸ hb))
  refine ⟨_, ⟨2, fun k => if k = 0 then σ0.blk 0 else some g, fun k => if k = 0 then σ0.hdr 0 else .slice (some ⟨g, 0, none⟩) (p.n - 1) cap⟩, I, _, .own 1, rfl, ⟨rfl, rfl⟩, ⟨q1.trans r1, q2.trans r2, q3.trans r3, Nat.le_of_eq hsize.symm, fun x hx hF => hne x fun e => hF (e ▸ hfr.1)⟩, fun _ h => h, fun _ h => .inl h, ⟨rfl, fun b hb => by rw [hsize]; exact hst.imm b hb, fun k o e => ?_, fun k o b e hl h => ?_, fun k1 k2 o1 o2 b e1 e2 l1 l2 _ _ => ?_⟩, ?_, ?_⟩
  · match k, e with
    | 0, e => injection e with e; subst e; trivial
    | 1, e =>
      injection e with e
      subst e
      refine ⟨.inr ⟨rfl, _, ⟨?_, .inr ⟨g, cap, cur2, rfl, Nat.zero_le _, d1, by show p.n - 1 ≤ cap; omega, a5, by rw [d2, c2, a6], rfl⟩⟩, fun x hx => ?_, fun k hk j hj => ?_⟩, fun h => Bool.noConfusion h⟩
      · rw [List.length_take, Array.length_toList, d2, c2, a6]
        show min ((p.n - 1) * 3) (cap * 3) = (p.n - 1) * 3
        omega
      · obtain ⟨m, hm, rfl⟩ := List.getElem_of_mem hx
        have hm' : m < (p.n - 1) * 3 := by
          rw [List.length_take] at hm
          exact Nat.lt_of_lt_of_le hm (Nat.min_le_left _ _)
        have h1 := hcell (m / 3) (by omega) (m % 3) (Nat.mod_lt _ (by decide))
        rw [show m / 3 * 3 + m % 3 = m by omega] at h1
        have h1 := (List.getElem?_eq_getElem hm).symm.trans ((htk m hm').trans h1)
        obtain ⟨u, u1, u2⟩ := hxs ((if m / 3 < i then m / 3 else m / 3 + 1) * 3 + m % 3) (by split <;> omega)
        rw [u1] at h1
        injection h1 with h1
        rw [h1]
        exact u2
      · have hk : k < p.n - 1 := hk
        obtain ⟨c, e1, e2⟩ := a10 (if k < i then k else k + 1) (by split <;> omega) j hj
        refine ⟨c, ?_, L.rd_mono hkI (fun _ h => h) e2⟩
        show (cur2.toList.take ((p.n - 1) * 3))[k * 3 + j]? = some c
        rw [htk _ (by omega), hcell k hk j hj]
        exact e1
  · match k, e with
    | 0, e => injection e with e; subst e; cases hl
    | 1, e =>
      injection h with h
      subst h
      exact ⟨hfr.1, hfr.2.1, by rw [hsize]; exact hfr.2.2⟩
  · have g1 : k1 < 2 := (List.getElem?_eq_some_iff.1 e1).1
    have g2 : k2 < 2 := (List.getElem?_eq_some_iff.1 e2).1
    have f1 : k1 ≠ 0 := fun h => by subst h; injection e1 with e1; subst e1; cases l1
    have f2 : k2 ≠ 0 := fun h => by subst h; injection e2 with e2; subst e2; cases l2
    omega
  · simp only [Den]
    exact ⟨by decide, rfl, rfl⟩
  · have hc : σ0.cnt = 1 := hst.cnt
    refine ⟨by rw [hc]; exact Nat.le_succ 1, fun k hk => ?_, fun k hk => ?_⟩ <;> (rw [hc] at hk; obtain rfl : k = 0 := by omega) <;> rfl
end Go.Proofs.Ytkkkldhilofgmaa
