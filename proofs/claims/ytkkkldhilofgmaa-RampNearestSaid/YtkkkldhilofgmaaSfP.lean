/-
  slices.SortFunc at whatever length, at structs of scalars: the kit's contract as a contract of the machine.
-/
import Derived.Shelf.SlSortCmp.WholeK
import Derived.Shelf.SlSortCmp.NoneTotal
import Derived.Test.YtkkkldhilofgmaaWk
namespace Go.Proofs.Ytkkkldhilofgmaa
open Go.RowKit Go.Sort Go.Proofs

/-- the cells of element i; beyond the row: z -/
def cellV : L → Value
  | .v x => x
  | _ => undef
def sfEnc (k n : Nat) (z : Nat → Value) (F0 : Nat → Nat → L) (i : Nat) : List Value := (List.range k).map fun j => if i < n then cellV (F0 i j) else z j
theorem sfEnc_len (k n : Nat) (z : Nat → Value) (F0 : Nat → Nat → L) (i : Nat) : (sfEnc k n z F0 i).length = k := by simp [sfEnc]
theorem sfEnc_at {k n : Nat} {z : Nat → Value} {F0 : Nat → Nat → L} {i j : Nat} (hi : i < n) (hj : j < k) : (sfEnc k n z F0 i)[j]! = cellV (F0 i j) := by
  rw [getElem!_pos _ j (by rw [sfEnc_len]; exact hj)]
  simp [sfEnc, hi]
theorem range_at {n i : Nat} (h : i < n) : (Array.range n)[i]! = i := by
  rw [getElem!_pos _ i (by simpa using h)]
  simp
/-- a permuted range as an order -/
theorem wk_of {key : Nat → Int} {cf : Nat → Nat → Int} {n : Nat} {d' : Array Nat} (hcf : ∀ x y, x < n → y < n → (cf x y < 0 ↔ key x < key y)) (hp : PermIn 0 (Array.range n).size (Array.range n) d') (hs : SortedIn (ltOf cf) 0 (Array.range n).size d') :
    d'.size = n ∧ Wk key (fun k => d'[k]!) n := by
  obtain ⟨p1, _, p3⟩ := hp
  rw [Array.size_range] at p1 p3 hs
  have hl : d'.toList.Perm (List.range n) := by
    have e1 : (d'.extract 0 n).toList = d'.toList := by rw [← p1]; simp
    have e2 : ((Array.range n).extract 0 n).toList = List.range n := by simp
    rw [e1, e2] at p3
    exact p3
  have hat : ∀ k, k < n → d'[k]! = d'.toList[k]! := fun k hk => by
    rw [getElem!_pos _ k (by omega), getElem!_pos _ k (by simp; omega)]
    simp
  have hlt : ∀ k, k < n → d'[k]! < n := fun k hk => by
    rw [hat k hk, getElem!_pos _ k (by simp; omega)]
    have := hl.mem_iff.1 (List.getElem_mem (l := d'.toList) (n := k) (by simp; omega))
    simpa using this
  refine ⟨p1, fun i j hij hj => ?_, hlt, fun i j hi hj e => ?_, fun i hi => ?_⟩
  · rcases Nat.eq_or_lt_of_le hij with rfl | hlt'
    · exact Int.le_refl _
    · have h := hs i j (Nat.zero_le _) hlt' hj
      have h1 := hcf _ _ (hlt j hj) (hlt i (by omega))
      unfold ltOf at h
      have h : ¬ cf d'[j]! d'[i]! < 0 := of_decide_eq_false h
      rw [h1] at h
      exact Int.not_lt.1 h
  · have hnd : d'.toList.Nodup := hl.nodup_iff.2 List.nodup_range
    rw [hat i hi, hat j hj, getElem!_pos _ i (by simp; omega), getElem!_pos _ j (by simp; omega)] at e
    have hpw := List.pairwise_iff_getElem.1 hnd
    rcases Nat.lt_trichotomy i j with hlt' | h | hlt'
    · exact absurd e (hpw i j (by simp; omega) (by simp; omega) hlt')
    · exact h
    · exact absurd e.symm (hpw j i (by simp; omega) (by simp; omega) hlt')
  · have hm : i ∈ d'.toList := hl.mem_iff.2 (by simpa using hi)
    obtain ⟨k, hk, e⟩ := List.getElem_of_mem hm
    have hk' : k < n := by simp at hk; omega
    exact ⟨k, hk', by rw [hat k hk', getElem!_pos _ k hk]; exact e⟩
/-- the cells of the sorted row -/
theorem putK_at {k n m : Nat} {enc : Nat → List Value} {d : Array Nat} {cur : Array Value} (hd : d.size = n) (hm : m < n * k) (hc : n * k ≤ cur.size) : (putCells id 0 (flatK enc k d) cur)[m]? = some (enc d[m / k]!)[m % k]! := by
  have hs : (flatK enc k d).size = n * k := by rw [size_flatK, hd]
  unfold putCells
  rw [Array.getElem?_mapIdx, Array.getElem?_eq_getElem (by omega)]
  simp only [Option.map_some, Nat.zero_le, true_and, Nat.zero_add, Nat.sub_zero, hs, hm, if_true]
  rw [get_flatK enc k d m (by rw [hd]; exact hm)]
  rfl
theorem sortK_other {enc : Nat → List Value} {k b m x : Nat} {w : World} {d : Array Nat} {os : Array Obj} (hx : x < w.heap.size) (hne : x ≠ b) : (sortWorldK enc k w b 0 m d os).heap[x]? = w.heap[x]? := by
  show ((w.heap.modify b _) ++ os)[x]? = _
  rw [Array.getElem?_append_left (by simpa using hx), Array.getElem?_modify, if_neg (fun h => hne h.symm)]
theorem sortK_same {enc : Nat → List Value} {k b m e : Nat} {w : World} {d : Array Nat} {os : Array Obj} {cur : Array Value} {fr : Nat × Nat} (hg : w.heap[b]? = some (.cells cur e fr)) : (sortWorldK enc k w b 0 m d os).heap[b]? = some (.cells (putCells id 0 (flatK enc k d) cur) e fr) := by
  have hb : b < w.heap.size := (Array.getElem?_eq_some_iff.1 hg).1
  show ((w.heap.modify b _) ++ os)[b]? = _
  rw [Array.getElem?_append_left (by simpa using hb), Array.getElem?_modify, if_pos rfl, hg]
  rfl
/-- the bridge: what the kit's contract says of the world, as a contract of the machine -/
theorem sf_bridge {f g : FuncId} {e k n : Nat} {F0 : Nat → Nat → L} {z : Nat → Value} {key : Nat → Int} {cf : Nat → Nat → Int} (hcl : Callable Try.prog f) (hsc : ∀ i j, (F0 i j).scal = true) (hcf : ∀ x y, x < n → y < n → (cf x y < 0 ↔ key x < key y))
    (hNone : ∀ (p : Option Addr) (cap : Nat) (fv : Value) (w : World), Calls Try.prog f #[.slice p 0 cap, fv] w fun e w' => e = .returned (.tuple #[]) ∧ w' = w)
    (hCall : ∀ (b cap : Nat) (w : World), HoldsK (sfEnc k n z F0) k w b 0 (Array.range n) → b < w.heap.size → (∀ i, i < n → ∀ j, j < k → (cellV (F0 i j)).oneCell' = true) → Calls Try.prog f #[.slice (some ⟨b, 0, none⟩) (Array.range n).size cap, .func (.func g) #[] #[]] w fun e w' => e = .returned (.tuple #[]) ∧ ∃ d' m os, PermIn 0 (Array.range n).size (Array.range n) d' ∧ SortedIn (ltOf cf) 0 (Array.range n).size d' ∧ w' = sortWorldK (sfEnc k n z F0) k w b 0 m d' os) :
    FnM Try.prog f [.row e k n true F0] [.own 0, .fn g []] (fun obs r => ∃ q, Wk key q n ∧ obs = [.row e k n true fun i j => F0 (q i) j] ∧ r = .tup []) := by
  refine ⟨hcl, fun w I σ0 vs hst hd => ?_⟩
  simp only [DenL, Den] at hd
  obtain ⟨u0, us, rfl, ⟨hc0, rfl, hone⟩, u1, us', rfl, ⟨us2, rfl, rfl⟩, rfl⟩ := hd
  have ho : ([OB.row e k n true F0] : List OB)[0]? = some (.row e k n true F0) := rfl
  have hrow := (hst.obj 0 _ ho).1
  by_cases h0 : n = 0
  · subst h0
    obtain ⟨A, cap, hA, _⟩ := hrow.len
    rw [hA]
    refine (hNone A cap _ w).mono ?_
    rintro e' w' ⟨rfl, rfl⟩
    refine ⟨.tuple #[], σ0, I, [.row e k 0 true F0], .tup [], rfl, ⟨id, ⟨fun i j _ h => absurd h (Nat.not_lt_zero _), fun i h => absurd h (Nat.not_lt_zero _), fun i j h => absurd h (Nat.not_lt_zero _), fun i h => absurd h (Nat.not_lt_zero _)⟩, rfl, rfl⟩, SameF.refl _ _, fun _ h => h, fun _ h => .inl h, hst, ?_, Asg.le_refl _⟩
    simp only [Den]
    exact ⟨[], rfl, rfl⟩
  · obtain ⟨b, cap, cur, xs, a1, a2, a3, a4, a5, a6, a7, a8, a9, a10, a11⟩ := hrow.at (by omega)
    have hown : (σ0.hdr 0).ownBlock = σ0.blk 0 := by
      rcases hrow with ⟨h, _⟩ | ⟨h, _⟩
      · exact absurd h h0
      · exact h
    have hbw : b < w.heap.size := (Array.getElem?_eq_some_iff.1 a3).1
    have hcell : ∀ i, i < n → ∀ j, j < k → ∃ x, F0 i j = .v x ∧ xs[i * k + j]? = some x ∧ x.oneCell' = true := fun i hi j hj => by
      obtain ⟨c, c1, c2⟩ := a10 i hi j hj
      have hs := hsc i j
      cases hF : F0 i j with
      | v x =>
        rw [hF] at c2
        obtain ⟨rfl, c3⟩ := c2
        exact ⟨c, rfl, c1, c3⟩
      | un => rw [hF] at hs; cases hs
      | sl => rw [hF] at hs; cases hs
    have hH : HoldsK (sfEnc k n z F0) k w b 0 (Array.range n) := fun j hj => by
      have hj : j < n * k := by simpa using hj
      have hk0 : 0 < k := by
        rcases Nat.eq_zero_or_pos k with h | h
        · rw [h] at hj; omega
        · exact h
      have hjk : j / k < n := (Nat.div_lt_iff_lt_mul hk0).2 hj
      have hjm : j % k < k := Nat.mod_lt _ hk0
      obtain ⟨x, x1, x2, x3⟩ := hcell (j / k) hjk (j % k) hjm
      have hjj : j / k * k + j % k = j := by rw [Nat.mul_comm]; exact Nat.div_add_mod j k
      rw [hjj] at x2
      refine ⟨?_, ?_⟩
      · rw [get_flatK _ _ _ _ (by simpa using hj), range_at hjk, sfEnc_at hjk hjm, x1, Nat.zero_add]
        exact a11 j x x2
      · rw [Nat.zero_add]
        simp [World.frozen?, a3]
    rw [a1]
    have hcon := hCall b cap w hH hbw fun i hi j hj => by
      obtain ⟨x, x1, _, x3⟩ := hcell i hi j hj
      rw [x1]
      exact x3
    rw [Array.size_range] at hcon
    refine hcon.mono ?_
    rintro e' w' ⟨rfl, d', m, os, hp, hs, rfl⟩
    obtain ⟨hds, hwk⟩ := wk_of (key := key) hcf (by rw [Array.size_range]; exact hp) (by rw [Array.size_range]; exact hs)
    have hsame := sortK_same (enc := sfEnc k n z F0) (k := k) (m := m) (d := d') (os := os) a3
    have hoth := fun x (hx : x < w.heap.size) (hne : x ≠ b) => sortK_other (enc := sfEnc k n z F0) (k := k) (m := m) (d := d') (os := os) (w := w) hx hne
    have hsize : w.heap.size ≤ (sortWorldK (sfEnc k n z F0) k w b 0 m d' os).heap.size := by
      show w.heap.size ≤ ((w.heap.modify b _) ++ os).size
      simp
    have hnk : n * k ≤ cur.size := by rw [a6]; exact Nat.mul_le_mul_right k a4
    have hput : ∀ i, i < n → ∀ j, j < k → (putCells id 0 (flatK (sfEnc k n z F0) k d') cur)[i * k + j]? = some (cellV (F0 d'[i]! j)) := fun i hi j hj => by
      have hm : i * k + j < n * k := by
        have := Nat.mul_le_mul_right k (show i + 1 ≤ n from hi)
        rw [Nat.add_mul] at this
        omega
      rw [putK_at hds hm hnk]
      have h1 : (i * k + j) / k = i := by
        rw [Nat.add_comm, Nat.add_mul_div_right _ _ (by omega), Nat.div_eq_of_lt hj, Nat.zero_add]
      have h2 : (i * k + j) % k = j := by
        rw [Nat.add_comm, Nat.add_mul_mod_self_right, Nat.mod_eq_of_lt hj]
      rw [h1, h2, sfEnc_at (hwk.lt hi) hj]
    have hpsz : (putCells id 0 (flatK (sfEnc k n z F0) k d') cur).size = cap * k := by
      unfold putCells
      rw [Array.size_mapIdx, a6]
    have htk : ∀ q, q < n * k → ((putCells id 0 (flatK (sfEnc k n z F0) k d') cur).toList.take (n * k))[q]? = (putCells id 0 (flatK (sfEnc k n z F0) k d') cur)[q]? := fun q hq => by
      rw [List.getElem?_take_of_lt hq, Array.getElem?_toList]
    have hx1 : ∀ x ∈ (putCells id 0 (flatK (sfEnc k n z F0) k d') cur).toList.take (n * k), x.oneCell' = true := fun x hx => by
      obtain ⟨q, hq, rfl⟩ := List.getElem_of_mem hx
      have hq' : q < n * k := by
        have := hq
        rw [List.length_take] at this
        omega
      have hk0 : 0 < k := by
        rcases Nat.eq_zero_or_pos k with h | h
        · rw [h] at hq'; omega
        · exact h
      have hqk : q / k < n := (Nat.div_lt_iff_lt_mul hk0).2 hq'
      have hqm : q % k < k := Nat.mod_lt _ hk0
      have hqq : q / k * k + q % k = q := by rw [Nat.mul_comm]; exact Nat.div_add_mod q k
      have h1 := hput (q / k) hqk (q % k) hqm
      rw [hqq, ← htk q hq', List.getElem?_eq_getElem hq] at h1
      injection h1 with h1
      rw [h1]
      obtain ⟨x, x1, _, x3⟩ := hcell _ (hwk.lt hqk) _ hqm
      rw [x1]
      exact x3
    refine ⟨.tuple #[], σ0, I, [.row e k n true fun i j => F0 (d'[i]!) j], .tup [], rfl, ⟨_, hwk, rfl, rfl⟩, ⟨rfl, rfl, rfl, hsize, fun x hx hF => hoth x hx fun hxb => hF (.inr ⟨0, _, ho, rfl, by rw [hxb]; exact a2⟩)⟩, fun _ h => h, fun _ h => .inl h, ?_, ?_, Asg.le_refl _⟩
    · refine hst.upd (i := 0) (b := b) ho rfl a2 hsize hoth ⟨.inr ⟨hown, _, ⟨?_, .inr ⟨b, cap, _, a1, Nat.zero_le _, hsame, a4, a5, hpsz, rfl⟩⟩, hx1, fun i hi j hj => ?_⟩, fun _ i j => hsc _ j⟩
      · rw [List.length_take, Array.length_toList, hpsz]
        have := Nat.mul_le_mul_right k a4
        omega
      · have hm : i * k + j < n * k := by
          have := Nat.mul_le_mul_right k (show i + 1 ≤ n from hi)
          rw [Nat.add_mul] at this
          omega
        obtain ⟨x, x1, _, x3⟩ := hcell _ (hwk.lt hi) _ hj
        refine ⟨cellV (F0 d'[i]! j), by rw [htk _ hm]; exact hput i hi j hj, ?_⟩
        show L.rd _ I (F0 d'[i]! j) (cellV (F0 d'[i]! j))
        rw [x1]
        exact ⟨rfl, x3⟩
    · simp only [Den]
      exact ⟨[], rfl, rfl⟩
end Go.Proofs.Ytkkkldhilofgmaa
