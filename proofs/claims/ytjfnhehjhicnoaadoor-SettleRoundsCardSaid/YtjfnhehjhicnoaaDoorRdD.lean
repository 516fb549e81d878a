/-
  Reading numbers: what a decimal numeral's bytes are, plain.
-/
import Derived.Test.YtjfnhehjhicnoaaDoorRdQ
import Derived.Test.YtjfnhehjhicnoaaDoorLgZ
namespace Go.Proofs.YtjfnhehjhicnoaaDoor
open Go.RowKit

theorem dec_sz (u : Nat) : (decB u).size = Lib.nDigits u := by
  show (Lib.decDigits u).toArray.size = _
  rw [List.size_toArray, Lib.decDigits_length]
theorem strB_of {s : ByteArray} {i : Nat} {b : UInt8} (h : s.data.toList[i]? = some b) : strB s i = (b.toNat : Int) := by
  unfold strB
  have h1 : s[i]? = some b := by
    rw [Array.getElem?_toList] at h
    obtain ⟨hi, e⟩ := Array.getElem?_eq_some_iff.1 h
    have hi' : i < s.size := hi
    rw [getElem?_pos s i hi']
    exact congrArg some e
  rw [h1]
  rfl
theorem dec_byte {u k : Nat} (h : k < Lib.nDigits u) : (decB u).data.toList[k]? = some (UInt8.ofNat (48 + u / 10 ^ (Lib.nDigits u - 1 - k) % 10)) := by
  show ((Lib.decDigits u).toArray).toList[k]? = _
  rw [List.toList_toArray, Lib.decDigits_eq, List.getElem?_map, List.getElem?_range h]
  rfl
theorem dec_at {u k : Nat} (h : k < Lib.nDigits u) : strB (decB u) k = ((48 + u / 10 ^ (Lib.nDigits u - 1 - k) % 10 : Nat) : Int) := by
  rw [strB_of (dec_byte h)]
  have h1 : u / 10 ^ (Lib.nDigits u - 1 - k) % 10 < 10 := Nat.mod_lt _ (by decide)
  congr 1
  show (48 + u / 10 ^ (Lib.nDigits u - 1 - k) % 10) % 256 = _
  omega
theorem dec_all (u : Nat) : allD (decB u) = true := by
  refine all_range.2 fun k hk => ?_
  rw [dec_sz] at hk
  rw [dec_at hk]
  have h1 : u / 10 ^ (Lib.nDigits u - 1 - k) % 10 < 10 := Nat.mod_lt _ (by decide)
  generalize u / 10 ^ (Lib.nDigits u - 1 - k) % 10 = d at *
  simp only [digB, inB, Bool.and_eq_true, decide_eq_true_eq]
  omega
theorem dec_pfx (u : Nat) : ∀ {i : Nat}, i ≤ Lib.nDigits u → pfx (decB u) i = u / 10 ^ (Lib.nDigits u - i)
  | 0, _ => by
    rw [Nat.sub_zero, Nat.div_eq_of_lt (Lib.lt_pow_nDigits u)]
    rfl
  | i + 1, h => by
    have h1 := dec_pfx u (i := i) (by omega)
    have h2 := dec_at (u := u) (k := i) (by omega)
    show pfx (decB u) i * 10 + (strB (decB u) i - 48).toNat = _
    rw [h1, h2, show Lib.nDigits u - 1 - i = Lib.nDigits u - (i + 1) by omega, show Lib.nDigits u - i = (Lib.nDigits u - (i + 1)) + 1 by omega, Nat.pow_succ, ← Nat.div_div_eq_div_mul]
    generalize u / 10 ^ (Lib.nDigits u - (i + 1)) = q
    omega
theorem dec_val (u : Nat) : pfx (decB u) (decB u).size = u := by
  rw [dec_sz, dec_pfx u (Nat.le_refl _), Nat.sub_self, Nat.pow_zero, Nat.div_one]
theorem nd_ge {u : Nat} : 10 ≤ u → 10 ^ (Lib.nDigits u - 1) ≤ u := by
  induction u using Nat.strongRecOn with
  | _ u ih =>
    intro h
    rw [Lib.nDigits_big (by omega), Nat.add_sub_cancel]
    by_cases h10 : u / 10 < 10
    · rw [Lib.nDigits_small h10]
      omega
    · have h1 := ih (u / 10) (by omega) (by omega)
      have h2 := Lib.nDigits_pos (u / 10)
      rw [show Lib.nDigits (u / 10) = (Lib.nDigits (u / 10) - 1) + 1 by omega, Nat.pow_succ]
      omega
theorem dec_lead (u : Nat) : (decB u).size = 1 ∨ strB (decB u) 0 ≠ 48 := by
  by_cases h : u < 10
  · left
    rw [dec_sz, Lib.nDigits_small h]
  · right
    have h1 := nd_ge (u := u) (by omega)
    have h2 := Lib.lt_pow_nDigits u
    have h3 := Lib.nDigits_pos u
    rw [dec_at h3, Nat.sub_zero]
    rw [show Lib.nDigits u = (Lib.nDigits u - 1) + 1 by omega, Nat.pow_succ] at h2
    have h4 : 0 < 10 ^ (Lib.nDigits u - 1) := Nat.pow_pos (by decide)
    have h5 : 0 < u / 10 ^ (Lib.nDigits u - 1) := Nat.div_pos h1 h4
    have h6 : u / 10 ^ (Lib.nDigits u - 1) < 10 := by rw [Nat.div_lt_iff_lt_mul h4, Nat.mul_comm]; exact h2
    generalize u / 10 ^ (Lib.nDigits u - 1) = q at *
    omega
theorem dec_le9 {u : Nat} (h : u < 1000000000) : (decB u).size ≤ 9 := decB_size (k := 8) h
theorem dec_ge1 (u : Nat) : 1 ≤ (decB u).size := dec_pos
/-- the sign -/
theorem ext_list (s : ByteArray) (a b : Nat) : (s.extract a b).data.toList = (s.data.toList.drop a).take (b - a) := by
  rw [ByteArray.data_extract, Array.toList_extract]
theorem neg_of {s : ByteArray} {b : UInt8} {l : List UInt8} (h : s.data.toList = b :: l) : negB s = (b == 45) := by
  have hs : s.size = l.length + 1 := by
    show s.data.size = _
    rw [← Array.length_toList, h]
    rfl
  have h1 : (s.extract 0 1).toList = [b] := by
    rw [ByteArray.toList_eq, ext_list, h]
    rfl
  have h2 : (⟨#[45]⟩ : ByteArray).toList = [45] := by rw [ByteArray.toList_eq]
  unfold negB
  rw [h1, h2, hs, decide_eq_true (by omega)]
  simp
theorem dec_cons (u : Nat) : ∃ b l, (decB u).data.toList = b :: l ∧ b ≠ 45 := by
  have h := dec_byte (u := u) (k := 0) (Lib.nDigits_pos u)
  cases hl : (decB u).data.toList with
  | nil => rw [hl] at h; cases h
  | cons b l =>
    rw [hl] at h
    have h : some b = some _ := h
    injection h with h
    refine ⟨b, l, rfl, fun hb => ?_⟩
    rw [hb] at h
    have h1 : u / 10 ^ (Lib.nDigits u - 1 - 0) % 10 < 10 := Nat.mod_lt _ (by decide)
    have h2 := congrArg UInt8.toNat h
    have h3 : (UInt8.ofNat (48 + u / 10 ^ (Lib.nDigits u - 1 - 0) % 10)).toNat = (48 + u / 10 ^ (Lib.nDigits u - 1 - 0) % 10) % 256 := rfl
    rw [h3] at h2
    have h4 : (45 : UInt8).toNat = 45 := rfl
    omega
theorem neg_dec (u : Nat) (t : ByteArray) : negB (decB u ++ t) = false := by
  obtain ⟨b, l, h, hb⟩ := dec_cons u
  have h2 : (decB u ++ t).data.toList = b :: (l ++ t.data.toList) := by
    rw [ByteArray.data_append, Array.toList_append, h]
    rfl
  rw [neg_of h2]
  simpa using hb
theorem neg_min (t : ByteArray) : negB ((⟨#[45]⟩ : ByteArray) ++ t) = true := by
  have h2 : ((⟨#[45]⟩ : ByteArray) ++ t).data.toList = 45 :: t.data.toList := by
    rw [ByteArray.data_append, Array.toList_append]
    rfl
  rw [neg_of h2]
  rfl
theorem trm_min (t : ByteArray) : trmB ((⟨#[45]⟩ : ByteArray) ++ t) = t := by
  unfold trmB
  rw [neg_min]
  apply ByteArray.ext
  apply Array.toList_inj.1
  show (ByteArray.extract _ 1 _).data.toList = _
  have hs : ((⟨#[45]⟩ : ByteArray) ++ t).size - 1 = t.data.toList.length := by
    rw [ByteArray.size_append, Array.length_toList]
    show 1 + t.data.size - 1 = _
    omega
  rw [ext_list, hs, ByteArray.data_append, Array.toList_append]
  show List.take _ t.data.toList = _
  exact List.take_length
/-- where the '/' stands -/
theorem ib_none : ∀ {l : List UInt8} {c : UInt8}, (∀ x ∈ l, x ≠ c) → Lib.indexByte l c = -1
  | [], _, _ => rfl
  | b :: l, c, h => by
    unfold Lib.indexByte
    have h1 : (b == c) = false := by simpa using h b (List.mem_cons_self ..)
    rw [h1, ib_none fun x hx => h x (List.mem_cons_of_mem _ hx)]
    rfl
theorem ib_some : ∀ {l t : List UInt8} {c : UInt8}, (∀ x ∈ l, x ≠ c) → Lib.indexByte (l ++ c :: t) c = l.length
  | [], t, c, _ => by
    unfold Lib.indexByte
    simp
  | b :: l, t, c, h => by
    show Lib.indexByte (b :: (l ++ c :: t)) c = _
    unfold Lib.indexByte
    have h1 : (b == c) = false := by simpa using h b (List.mem_cons_self ..)
    rw [h1, ib_some fun x hx => h x (List.mem_cons_of_mem _ hx)]
    have h2 : (((l.length : Nat) : Int) == -1) = false := by
      simp
    rw [h2]
    simp
theorem dec_no47 (u : Nat) : ∀ x ∈ (decB u).data.toList, x ≠ 47 := by
  intro x hx
  obtain ⟨k, hk, rfl⟩ := List.getElem_of_mem hx
  have hk' : k < Lib.nDigits u := by
    rw [← dec_sz]
    show k < (decB u).data.size
    rw [← Array.length_toList]
    exact hk
  have h := dec_byte hk'
  rw [List.getElem?_eq_getElem hk] at h
  injection h with h
  rw [h]
  intro he
  have h1 : u / 10 ^ (Lib.nDigits u - 1 - k) % 10 < 10 := Nat.mod_lt _ (by decide)
  have h2 := congrArg UInt8.toNat he
  have h3 : (UInt8.ofNat (48 + u / 10 ^ (Lib.nDigits u - 1 - k) % 10)).toNat = (48 + u / 10 ^ (Lib.nDigits u - 1 - k) % 10) % 256 := rfl
  rw [h3] at h2
  have h4 : (47 : UInt8).toNat = 47 := rfl
  omega
theorem sI_no47 (x : Int) : ∀ b ∈ (sI x).data.toList, b ≠ 47 := by
  unfold sI
  split
  · intro b hb
    rw [ByteArray.data_append, Array.toList_append] at hb
    rcases List.mem_append.1 hb with h | h
    · have : b ∈ ([45] : List UInt8) := h
      rw [List.mem_singleton.1 this]
      decide
    · exact dec_no47 _ b h
  · exact dec_no47 _
theorem cut_dec (u : Nat) : cutI (decB u) = -1 := ib_none (dec_no47 u)
theorem cut_sI (x : Int) : cutI (sI x) = -1 := ib_none (sI_no47 x)
theorem cut_at {s t : ByteArray} (h : ∀ b ∈ s.data.toList, b ≠ 47) : isCut (s ++ ⟨#[47]⟩ ++ t) s t := by
  have hl : (s ++ ⟨#[47]⟩ ++ t).data.toList = s.data.toList ++ 47 :: t.data.toList := by
    rw [ByteArray.data_append, ByteArray.data_append, Array.toList_append, Array.toList_append]
    simp
  have hc : cutI (s ++ ⟨#[47]⟩ ++ t) = ((s.data.toList.length : Nat) : Int) := by
    unfold cutI
    rw [hl, ib_some h]
  have hsz : (s ++ ⟨#[47]⟩ ++ t).size = s.data.toList.length + 1 + t.data.toList.length := by
    rw [ByteArray.size_append, ByteArray.size_append, Array.length_toList, Array.length_toList]
    rfl
  refine ⟨by rw [hc]; omega, by rw [hc, hsz]; omega, ?_, ?_⟩
  · rw [hc, Int.toNat_natCast]
    apply ByteArray.ext
    apply Array.toList_inj.1
    rw [ext_list, hl, List.drop_zero, Nat.sub_zero, List.take_left']
    rfl
  · rw [hc, Int.toNat_natCast]
    apply ByteArray.ext
    apply Array.toList_inj.1
    rw [ext_list, hl, hsz, show s.data.toList ++ 47 :: t.data.toList = (s.data.toList ++ [47]) ++ t.data.toList by simp, List.drop_left' (by simp)]
    rw [show s.data.toList.length + 1 + t.data.toList.length - (s.data.toList.length + 1) = t.data.toList.length by omega]
    exact List.take_length
theorem dec_zero {u : Nat} (h : decB u = ⟨#[48]⟩) : u = 0 := by
  have h1 := dec_val u
  rw [h] at h1
  exact h1.symm
/-- the text of a whole number with the sign taken off -/
theorem neg_sI (x : Int) : negB (sI x) = decide (x < 0) := by
  unfold sI
  by_cases h : x < 0
  · rw [if_pos h, neg_min, decide_eq_true h]
  · rw [if_neg h, decide_eq_false h]
    have := neg_dec x.natAbs ByteArray.empty
    rw [emp_app] at this
    exact this
theorem trm_dec (u : Nat) (t : ByteArray) : trmB (decB u ++ t) = decB u ++ t := by
  unfold trmB
  rw [neg_dec]
  rfl
theorem trm_sI (x : Int) : trmB (sI x) = decB x.natAbs := by
  unfold sI
  by_cases h : x < 0
  · rw [if_pos h, trm_min]
  · rw [if_neg h]
    have := trm_dec x.natAbs ByteArray.empty
    rw [emp_app] at this
    exact this
theorem trm_sIs (x : Int) (t : ByteArray) : trmB (sI x ++ t) = decB x.natAbs ++ t := by
  unfold sI
  by_cases h : x < 0
  · rw [if_pos h, app_assoc, trm_min]
  · rw [if_neg h]
    exact trm_dec x.natAbs t
theorem neg_sIs (x : Int) (t : ByteArray) : negB (sI x ++ t) = decide (x < 0) := by
  unfold sI
  by_cases h : x < 0
  · rw [if_pos h, app_assoc, neg_min, decide_eq_true h]
  · rw [if_neg h, neg_dec, decide_eq_false h]
end Go.Proofs.YtjfnhehjhicnoaaDoor
