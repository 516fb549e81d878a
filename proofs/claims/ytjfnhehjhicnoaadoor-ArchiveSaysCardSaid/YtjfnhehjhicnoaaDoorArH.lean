/-
  Archive: strconv.FormatUint in base 16.
-/
import Derived.Test.YtjfnhehjhicnoaaDoorArE
import Derived.Lib.AppendIntMem
import Derived.Laws.Bits64b
import Derived.Handy
namespace Go.Proofs.YtjfnhehjhicnoaaDoor
open Go.RowKit Go.Sort Go.Proofs

theorem tz16 (w : World) (hcell : w.cell? ⟨3, 15, none⟩ = some (.int .u8 4)) : Calls Tryd.prog 145 #[.int .u64 16] w fun e w' => e = .returned (.int .i64 4) ∧ w' = w := by
  have key : bits BinOp.and IntKind.u64 (16 : Int) (IntKind.u64.wrap (-(16 : Int))) = 16 := by decide +kernel
  have key2 : IntKind.u64.wrap ((16 : Int) * 285870213051353865) / 288230376151711744 = (15 : Int) := by decide +kernel
  have g3 : Tryd.prog.globals[3]? = Tryd.prog.globals[3]? := rfl
  go_enter Tryd.func145, Tryd.ntmps145
  go_wp2_with (first | simp only [key] | simp only [key2])
  go_ret
  exact ⟨rfl, rfl⟩
theorem pow16 (w : World) : Calls Tryd.prog 118 #[.int .i64 16] w fun e w' => e = .returned (.bool true) ∧ w' = w := by
  have key : bits BinOp.and IntKind.i64 (16 : Int) (15 : Int) = 0 := by decide +kernel
  go_enter Tryd.func118, Tryd.ntmps118
  go_wp2
  go_ret
  exact ⟨rfl, rfl⟩
theorem tzu16 (w : World) (hcell : w.cell? ⟨3, 15, none⟩ = some (.int .u8 4)) : Calls Tryd.prog 119 #[.int .u64 16] w fun e w' => e = .returned (.int .i64 4) ∧ w' = w := by
  go_enter Tryd.func119, Tryd.ntmps119
  go_wp2_with (fail)
  refine (tz16 _ hcell).mono ?_
  rintro e w' ⟨rfl, rfl⟩
  go_wp2_with (fail)
  go_ret
  exact ⟨rfl, rfl⟩
abbrev bEnc : UInt8 → Value := fun (b : UInt8) => Value.int .u8 (b.toNat : Int)
/-- the digits that stand behind place nd, and those to come -/
def HexInv (u nd v : Nat) (dk : Array UInt8) : Prop := dk.size = 65 ∧ nd ≤ 65 ∧ v ≤ u ∧ hexD v ++ dk.toList.drop nd = hexD u
theorem hexD_len {u : Nat} (h : u < 18446744073709551616) : (hexD u).length ≤ 16 := by
  have := hexB_size (u := u) (k := 15) h
  simpa [hexB, ByteArray.size] using this
theorem hexD_pos (u : Nat) : 0 < (hexD u).length := by
  have := hex_pos (x := u)
  simpa [hexB, ByteArray.size] using this
theorem HexInv.start (u : Nat) : HexInv u 65 u (Array.replicate 65 0) := ⟨by simp, Nat.le_refl _, Nat.le_refl _, by simp⟩
theorem HexInv.low {u nd v : Nat} {dk : Array UInt8} (h : HexInv u nd v dk) (hu : u < 18446744073709551616) : 50 ≤ nd := by
  obtain ⟨h1, h2, h6, h3⟩ := h
  have h4 := hexD_len hu
  have h5 := hexD_pos v
  have e : dk.toList.length = 65 := h1
  rw [← h3, List.length_append, List.length_drop, e] at h4
  omega
theorem drop_set {dk : Array UInt8} {i : Nat} (hi : i < dk.size) (c : UInt8) : (dk.setIfInBounds i c).toList.drop i = c :: dk.toList.drop (i + 1) := by
  have h1 : i < dk.toList.length := hi
  rw [Array.toList_setIfInBounds, List.drop_set]
  rw [if_neg (by omega), Nat.sub_self, List.drop_eq_getElem_cons h1, List.set_cons_zero]
theorem drop_at {dk : Array UInt8} {m : Nat} {l : List UInt8} (h : dk.toList.drop m = l) (j : Nat) (hj : j < l.length) : dk[m + j]! = l[j] := by
  subst h
  rw [List.getElem_drop]
  have h1 : m + j < dk.size := by
    rw [List.length_drop, Array.length_toList] at hj
    omega
  rw [getElem!_pos dk (m + j) h1]
  rfl
theorem HexInv.step {u nd v : Nat} {dk : Array UInt8} (h : HexInv u (nd + 1) v dk) (hv : 16 ≤ v) : HexInv u nd (v / 16) (dk.setIfInBounds nd (hxc (v % 16))) := by
  obtain ⟨h1, h2, h6, h3⟩ := h
  refine ⟨by simpa using h1, by omega, by omega, ?_⟩
  rw [drop_set (by omega), ← h3, hexD.eq_def v, dif_neg (by omega)]
  simp
theorem HexInv.fin {u nd v : Nat} {dk : Array UInt8} (h : HexInv u (nd + 1) v dk) (hv : v < 16) : (dk.setIfInBounds nd (hxc v)).toList.drop nd = hexD u := by
  obtain ⟨h1, h2, h6, h3⟩ := h
  rw [drop_set (by omega), ← h3, hexD.eq_def v, dif_pos hv]
  rfl
def digs : ByteArray := ⟨#[48, 49, 50, 51, 52, 53, 54, 55, 56, 57, 97, 98, 99, 100, 101, 102, 103, 104, 105, 106, 107, 108, 109, 110, 111, 112, 113, 114, 115, 116, 117, 118, 119, 120, 121, 122]⟩
theorem digs_at : ∀ i, i < 16 → digs[i]? = some (hxc i) := by decide
theorem idx_hex (k : IntKind) (z : Int) (i : Nat) (hz : z = (i : Int)) (hi : i < 16) (w : World) : (Instr.index 9 (.string digs) (.int k z)).run Tryd.prog w = .ok (.int .u8 ((hxc i).toNat : Int)) w := by
  subst hz
  have hs : digs.size = 36 := rfl
  rw [run_index_string w 9 digs k _ (by kernel_rfl), dif_pos ⟨by omega, by rw [hs]; omega⟩]
  have e : ((i : Int)).toNat = i := by omega
  simp only [e]
  have h1 := digs_at i hi
  rw [getElem?_pos digs i (by rw [hs]; omega)] at h1
  rw [Option.some.inj h1]
theorem bits_and_15 {v : Nat} (hv : v < 18446744073709551616) : bits BinOp.and IntKind.u64 (v : Int) 15 = ((v % 16 : Nat) : Int) := and15 hv
theorem zc65 : Tryd.zeroCells160 = Array.replicate 65 (.int .u8 0) := by rfl
theorem holds65 (w : World) (T : TypeId) : Holds bEnc (w.alloc (.cells Tryd.zeroCells160 T)) w.heap.size 0 (Array.replicate 65 (0 : UInt8)) := fun j hj => by
  rw [Array.size_replicate] at hj
  refine ⟨?_, World.frozen?_alloc_new _ _ _ _⟩
  rw [Nat.zero_add, World.cell?_alloc_new, zc65, getElem!_pos _ j (by rw [Array.size_replicate]; exact hj)]
  simp [hj]
set_option maxHeartbeats 6400000 in
set_option maxRecDepth 100000 in
theorem fbits (u : Nat) (hu : u < 18446744073709551616) (w : World) (hG : 3 < w.heap.size) (hcell : w.cell? ⟨3, 15, none⟩ = some (.int .u8 4)) :
    Calls Tryd.prog 92 #[.slice none 0 0, .int .u64 u, .int .i64 16, .bool false, .bool false] w fun e w' => e = .returned (.tuple #[.slice none 0 0, .string (hexB u)]) ∧ ∃ k os, w' = grow (w.drewN k) os := by
  have hcell2 : ∀ o, (w.alloc o).cell? ⟨3, 15, none⟩ = some (.int .u8 4) := fun o => by
    rw [World.cell?_alloc_old _ _ _ (by show 3 ≠ _; omega)]
    exact hcell
  go_enter Tryd.func92, Tryd.ntmps92
  go_wp2_with (fail)
  refine (pow16 _).mono ?_
  rintro e w' ⟨rfl, rfl⟩
  go_wp2_with (fail)
  refine (tzu16 _ (hcell2 _)).mono ?_
  rintro e w' ⟨rfl, rfl⟩
  go_wp2_with (fail)
  go_name_bytes DG hDG
  have eDG : DG = digs := by rw [← hDG]; rfl
  subst eDG
  clear hDG
  obtain ⟨W1, hW1⟩ : ∃ W, W = w.alloc (.cells Tryd.zeroCells160 160) := ⟨_, rfl⟩
  have hH : Holds bEnc W1 w.heap.size 0 (Array.replicate 65 (0 : UInt8)) := by rw [hW1]; exact holds65 w _
  rw [← hW1]
  clear hcell2
  go_loopw [1, 13] (fun vu vn wr => ∃ (nd v n : Nat) (dk : Array UInt8), vu = .int .u64 v ∧ vn = .int .i64 nd ∧ wr = (putRow bEnc W1 w.heap.size 0 dk).drewN n ∧ Hid (HexInv u nd v dk)) (fun vu _ _ => (RowKit.intOf vu).toNat)
  case atStart => exact ⟨65, u, 0, _, rfl, rfl, (putRow_self _ _ _ _ _ hH).symm, HexInv.start u⟩
  case round =>
    obtain ⟨nd, v, n, dk0, rfl, rfl, hw0, HI0⟩ := hrel
    rename World => W0
    have AH := Lib.hid hH
    clear hH
    have hs0 : dk0.size = 65 := HI0.out.1
    have hlow := HI0.out.low hu
    have hvu : v ≤ u := HI0.out.2.2.1
    have hnd : nd ≤ 65 := HI0.out.2.1
    have hH0 : Holds bEnc W0 w.heap.size 0 dk0 := by rw [hw0]; exact holds_putRow _ W1 w.heap.size 0 _ dk0 AH.out (by rw [hs0, Array.size_replicate])
    obtain ⟨G0, hG0⟩ : ∃ G : Nat → Int, ∀ t, G t = (dk0[t]!.toNat : Int) := ⟨_, fun _ => rfl⟩
    have hc0 : ∀ t, t < 65 → W0.cell? ⟨w.heap.size, t, none⟩ = some (.int .u8 (G0 t)) := fun t ht => by have h := (hH0 t (by omega)).1; rw [Nat.zero_add] at h; rw [hG0]; exact h
    have hf0 : ∀ t, t < 65 → W0.frozen? ⟨w.heap.size, t, none⟩ = false := fun t ht => by have h := (hH0 t (by omega)).2; rw [Nat.zero_add] at h; exact h
    have AW0 := Lib.hid hw0
    clear hw0 hG0 hH0
    obtain ⟨m, rfl⟩ : ∃ m, nd = m + 1 := ⟨nd - 1, by omega⟩
    have hcm := hc0 m (by omega)
    have hfm := hf0 m (by omega)
    clear hc0 hf0
    by_cases h16 : 16 ≤ v
    · have hX : ∀ w, (Instr.index 9 (.string digs) (.int .u64 (bits BinOp.and IntKind.u64 (v : Int) 15))).run Tryd.prog w = .ok (.int .u8 ((hxc (v % 16)).toNat : Int)) w := idx_hex .u64 _ (v % 16) (bits_and_15 (by omega)) (by omega)
      go_wp2
      case roundEnd =>
        refine ⟨⟨m, v / 16, n, dk0.setIfInBounds m (hxc (v % 16)), ?_, rfl, ?_, HI0.out.step h16⟩, ?_⟩
        · congr 1
        · rw [AW0.out]
          have h := Lib.store1_world W1 w.heap.size 0 dk0 n m (hxc (v % 16)) (by omega)
          rw [Nat.zero_add] at h
          exact h
        · simp [RowKit.intOf]
          omega
    · have hX : ∀ w, (Instr.index 9 (.string digs) (.int .u64 (v : Int))).run Tryd.prog w = .ok (.int .u8 ((hxc v).toNat : Int)) w := idx_hex .u64 _ v rfl (by omega)
      have hal : Tryd.prog.arrayLen 160 = 65 := by kernel_rfl
      have hsl : ∀ W, (Instr.sliceAt 160 (.pointer (some ⟨w.heap.size, 0, none⟩)) (some (.int .i64 (m : Int))) none none).run Tryd.prog W = .ok (.slice (some ⟨w.heap.size, m, none⟩) (65 - m) (65 - m)) W := fun W => by
        rw [run_sliceAt_array_l W 160 ⟨w.heap.size, 0, none⟩ (by kernel_rfl) .i64 (m : Int) (by omega) (by rw [hal]; omega), hal]
        go_simp
        omega
      have hW2 : W0.setCell ⟨w.heap.size, m, none⟩ (.int .u8 ((hxc v).toNat : Int)) = (putRow bEnc W1 w.heap.size 0 (dk0.setIfInBounds m (hxc v))).drewN n := by
        rw [AW0.out]
        have h := Lib.store1_world W1 w.heap.size 0 dk0 n m (hxc v) (by omega)
        rw [Nat.zero_add] at h
        exact h
      have hl := HI0.out.fin (by omega)
      have hlen : (hexD u).length = 65 - m := by
        rw [← hl, List.length_drop, Array.length_toList, Array.size_setIfInBounds, hs0]
      have hcv : (convert 108 9 (.slice (some ⟨w.heap.size, m, none⟩) (65 - m) (65 - m))).run Tryd.prog (W0.setCell ⟨w.heap.size, m, none⟩ (.int .u8 ((hxc v).toNat : Int))) = .ok (.string (hexB u)) (W0.setCell ⟨w.heap.size, m, none⟩ (.int .u8 ((hxc v).toNat : Int))) := by
        have h := run_convert_bytes_back (P := Tryd.prog) (W0.setCell ⟨w.heap.size, m, none⟩ (.int .u8 ((hxc v).toNat : Int))) 108 9 5 ⟨w.heap.size, m, none⟩ (65 - m) (hexD u) (by kernel_rfl) (by kernel_rfl) (by kernel_rfl) (fun j hj => by
          rw [hW2, Lib.add_plain, World.cell?_drewN]
          have h2 := cell?_putRow bEnc W1 w.heap.size 0 _ (dk0.setIfInBounds m (hxc v)) AH.out (by rw [Array.size_setIfInBounds, hs0, Array.size_replicate]) (m + j) (by rw [Array.size_setIfInBounds, hs0]; omega)
          rw [Nat.zero_add] at h2
          rw [h2, drop_at hl j hj])
        rw [hlen] at h
        exact h
      have HW2 := Lib.hid hW2
      clear hal hW2 hl hlen
      have hd : ∀ h : v < digs.size, digs[v]'h = hxc v := fun h => Option.some.inj ((getElem?_pos digs v h).symm.trans (digs_at v (by omega)))
      unfold digs at hd
      go_wp2
      go_ret2
      refine ⟨rfl, n, ?_⟩
      rw [HW2.out, hW1]
      exact Lib.fin_at w _ _ n 0
/-- formatBits's result, and the rest -/
theorem fmtH0 (u : Nat) (hu : u < 18446744073709551616) (w : World) (hG : 3 < w.heap.size) (hcell : w.cell? ⟨3, 15, none⟩ = some (.int .u8 4)) :
    Calls Tryd.prog 66 #[.int .u64 u, .int .i64 16] w fun e w' => e = .returned (.string (hexB u)) ∧ ∃ k os, w' = grow (w.drewN k) os := by
  go_enter Tryd.func66, Tryd.ntmps66
  go_wp2_with (fail)
  refine (fbits u hu w hG hcell).mono ?_
  rintro e w' ⟨rfl, h⟩
  go_wp2
  go_ret
  exact ⟨rfl, h⟩
end Go.Proofs.YtjfnhehjhicnoaaDoor
