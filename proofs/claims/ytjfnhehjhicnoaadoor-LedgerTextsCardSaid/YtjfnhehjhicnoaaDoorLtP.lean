/-
  Ledger texts: how many accounts; of lists alone.
-/
import Derived.Test.YtjfnhehjhicnoaaDoorLtF
namespace Go.Proofs.YtjfnhehjhicnoaaDoor
open Go.RowKit

theorem nodup_sub {α : Type} : ∀ {l m : List α}, l.Nodup → (∀ x, x ∈ l → x ∈ m) → l.length ≤ m.length
  | [], m, _, _ => Nat.zero_le _
  | x :: l, m, h, hs => by
    obtain ⟨a, b, rfl⟩ := List.append_of_mem (hs x (by simp))
    have hx : x ∉ l := (List.nodup_cons.1 h).1
    have ih := nodup_sub (l := l) (m := a ++ b) (List.nodup_cons.1 h).2 fun y hy => by
      have h1 := hs y (List.mem_cons_of_mem _ hy)
      simp only [List.mem_append, List.mem_cons] at h1 ⊢
      rcases h1 with h1 | rfl | h1
      · exact .inl h1
      · exact absurd hy hx
      · exact .inr h1
    simp only [List.length_append, List.length_cons] at ih ⊢
    omega
/-- two lists without a repeat and with the same elements -/
theorem nodup_len {α : Type} {l m : List α} (hl : l.Nodup) (hm : m.Nodup) (h : ∀ x, x ∈ l ↔ x ∈ m) : l.length = m.length :=
  Nat.le_antisymm (nodup_sub hl fun x hx => (h x).1 hx) (nodup_sub hm fun x hx => (h x).2 hx)
def Sr (l : List ByteArray) : Prop := l.Pairwise fun a b => bl a b = true
theorem Sr.nodup {l : List ByteArray} (h : Sr l) : l.Nodup := List.Pairwise.imp (fun {a b} hab e => by
  rw [e, bl_irr] at hab
  cases hab) h
theorem sr_take {l : List ByteArray} (h : Sr l) {k : Nat} (hk : k < l.length) : ∀ y, y ∈ l.take k → bl y (lS l k) = true := fun y hy => by
  obtain ⟨j, hj, rfl⟩ := List.getElem_of_mem hy
  rw [List.length_take] at hj
  have e : lS l k = l[k] := by unfold lS; rw [List.getD_eq_getElem?_getD, List.getElem?_eq_getElem hk]; rfl
  rw [e, List.getElem_take]
  exact List.pairwise_iff_getElem.1 h j k (by omega) hk (by omega)
theorem sr_snoc {l : List ByteArray} {x : ByteArray} (h : Sr l) (hx : ∀ y, y ∈ l → bl y x = true) : Sr (l ++ [x]) :=
  List.pairwise_append.2 ⟨h, List.pairwise_singleton _ _, fun a ha b hb => by simp at hb; subst hb; exact hx a ha⟩
theorem ptF_srt {l : List ByteArray} (hl : Sr l) (z : ByteArray) : ∀ {k : Nat}, k ≤ l.length →
    ((ptF (lS l) z k).2 = false → (ptF (lS l) z k).1 = l.take k ∧ ∀ y, y ∈ l.take k → bl y z = true) ∧
    ((ptF (lS l) z k).2 = true → Sr (ptF (lS l) z k).1 ∧ (∀ x, x ∈ (ptF (lS l) z k).1 ↔ x ∈ l.take k ∨ x = z) ∧ ∃ y, y ∈ l.take k ∧ (z = y ∨ bl z y = true))
  | 0, _ => ⟨fun _ => ⟨by simp [ptF], fun y hy => by simp at hy⟩, fun h => by simp [ptF] at h⟩
  | k + 1, hk => by
    have hkl : k < l.length := by omega
    obtain ⟨i1, i2⟩ := ptF_srt hl z (k := k) (by omega)
    have ht := sr_take hl hkl
    have htk : l.take (k + 1) = l.take k ++ [lS l k] := by
      rw [List.take_add_one, List.getElem?_eq_getElem hkl]
      unfold lS
      rw [List.getD_eq_getElem?_getD, List.getElem?_eq_getElem hkl]
      rfl
    have hsk : Sr (l.take k) := List.Pairwise.sublist (List.take_sublist k l) hl
    rw [htk]
    simp only [ptF]
    generalize lS l k = x at ht
    generalize l.take k = t at ht hsk i1 i2
    generalize ptF (lS l) z k = st at i1 i2
    obtain ⟨o, d⟩ := st
    dsimp only at i1 i2 ⊢
    by_cases hc : d = false ∧ (bl z x || z.toList == x.toList) = true
    · rw [if_pos hc]
      obtain ⟨rfl, hz⟩ := i1 hc.1
      refine ⟨(fun h => Bool.noConfusion h), fun _ => ?_⟩
      by_cases hb : bl z x = true
      · rw [if_pos hb]
        refine ⟨sr_snoc (sr_snoc hsk hz) fun y hy => ?_, fun y => ?_, x, by simp, .inr hb⟩
        · rcases List.mem_append.1 hy with h | h
          · exact ht y h
          · simp at h; subst h; exact hb
        · simp only [List.mem_append, List.mem_singleton]
          constructor
          · rintro ((h | h) | h)
            · exact .inl (.inl h)
            · exact .inr h
            · exact .inl (.inr h)
          · rintro ((h | h) | h)
            · exact .inl (.inl h)
            · exact .inr h
            · exact .inl (.inr h)
      · rw [if_neg hb]
        have hzx : z = x := by
          have h2 := hc.2
          rw [Bool.or_eq_true] at h2
          exact b_eq.1 (h2.resolve_left hb)
        refine ⟨sr_snoc hsk ht, fun y => ?_, x, by simp, .inl hzx⟩
        simp only [List.mem_append, List.mem_singleton]
        constructor
        · exact fun h => .inl h
        · rintro (h | h)
          · exact h
          · exact .inr (h.trans hzx)
    · rw [if_neg hc]
      refine ⟨fun hd => ?_, fun hd => ?_⟩
      · obtain ⟨rfl, hz⟩ := i1 hd
        refine ⟨rfl, fun y hy => ?_⟩
        have h2 : ¬ (bl z x || z.toList == x.toList) = true := fun h => hc ⟨hd, h⟩
        rw [Bool.or_eq_true, not_or] at h2
        rcases List.mem_append.1 hy with h | h
        · exact hz y h
        · simp at h; subst h
          exact bl_tri (by simpa using h2.1) fun e => h2.2 (b_eq.2 e)
      · obtain ⟨j1, j2, y, hy, j3⟩ := i2 hd
        refine ⟨sr_snoc j1 fun a ha => ?_, fun a => ?_, y, by simp [hy], j3⟩
        · rcases (j2 a).1 ha with h | rfl
          · exact ht a h
          · rcases j3 with rfl | j3
            · exact ht _ hy
            · exact bl_trans j3 (ht y hy)
        · simp only [List.mem_append, List.mem_singleton, j2]
          constructor
          · rintro ((h | h) | h)
            · exact .inl (.inl h)
            · exact .inr h
            · exact .inl (.inr h)
          · rintro ((h | h) | h)
            · exact .inl (.inl h)
            · exact .inr h
            · exact .inl (.inr h)
theorem putB_s {l : List ByteArray} (hl : Sr l) (z : ByteArray) : Sr (putB l z) ∧ ∀ x, x ∈ putB l z ↔ x ∈ l ∨ x = z := by
  obtain ⟨h1, h2⟩ := ptF_srt hl z (k := l.length) (Nat.le_refl _)
  rw [List.take_length] at h1 h2
  unfold putB ptL
  cases hd : (ptF (lS l) z l.length).2 with
  | false =>
    obtain ⟨e, hz⟩ := h1 hd
    rw [if_pos rfl, e]
    exact ⟨sr_snoc hl hz, fun x => by simp⟩
  | true =>
    rw [if_neg (by decide)]
    exact ⟨(h2 hd).1, (h2 hd).2.1⟩
theorem nmF_s (E : Ent) : ∀ i, Sr (nmF E i) ∧ ∀ x, x ∈ nmF E i ↔ ∃ k, k < i ∧ (x = E.fr k ∨ x = E.to k)
  | 0 => ⟨List.Pairwise.nil, fun x => ⟨fun h => by simp [nmF] at h, fun ⟨k, h, _⟩ => absurd h (Nat.not_lt_zero _)⟩⟩
  | i + 1 => by
    obtain ⟨h1, h2⟩ := nmF_s E i
    obtain ⟨a1, a2⟩ := putB_s h1 (E.fr i)
    obtain ⟨b1, b2⟩ := putB_s a1 (E.to i)
    refine ⟨b1, fun x => ?_⟩
    show x ∈ putB (putB (nmF E i) (E.fr i)) (E.to i) ↔ _
    rw [b2, a2, h2]
    constructor
    · rintro ((⟨k, hk, h⟩ | h) | h)
      · exact ⟨k, by omega, h⟩
      · exact ⟨i, by omega, .inl h⟩
      · exact ⟨i, by omega, .inr h⟩
    · rintro ⟨k, hk, h⟩
      rcases Nat.lt_succ_iff_lt_or_eq.1 hk with hk | rfl
      · exact .inl (.inl ⟨k, hk, h⟩)
      · rcases h with h | h
        · exact .inl (.inr h)
        · exact .inr h
theorem cmp_inv {α : Type} [Inhabited α] [DecidableEq α] {d : Array α} {le : α → α → Prop} (ha : ∀ x y, le x y → le y x → x = y) {n : Nat} (hs : ∀ i j, i ≤ j → j < n → le d[i]! d[j]!) : ∀ m, m ≤ n →
    (Lib.compactUpTo d m).Nodup ∧ ∀ x, x ∈ Lib.compactUpTo d m ↔ ∃ j, j < m ∧ x = d[j]!
  | 0, _ => ⟨by simp [Lib.compactUpTo], fun x => ⟨fun h => by simp [Lib.compactUpTo] at h, fun ⟨j, h, _⟩ => absurd h (Nat.not_lt_zero _)⟩⟩
  | m + 1, hm => by
    obtain ⟨h1, h2⟩ := cmp_inv ha hs m (by omega)
    rw [Lib.compactUpTo_succ]
    by_cases hk : Lib.keeps d m = true
    · rw [if_pos hk]
      refine ⟨List.nodup_append.2 ⟨h1, by simp, fun a ha1 b hb1 e => ?_⟩, fun x => ?_⟩
      · simp at hb1
        subst hb1
        subst e
        obtain ⟨j, hj, e⟩ := (h2 _).1 ha1
        have h3 := of_decide_eq_true hk
        rcases h3 with h3 | h3
        · omega
        · have g1 := hs j (m - 1) (by omega) (by omega)
          have g2 := hs (m - 1) m (by omega) (by omega)
          rw [← e] at g1
          exact h3 (ha _ _ g1 g2)
      · simp only [List.mem_append, List.mem_singleton, h2]
        constructor
        · rintro (⟨j, hj, e⟩ | e)
          · exact ⟨j, by omega, e⟩
          · exact ⟨m, by omega, e⟩
        · rintro ⟨j, hj, e⟩
          rcases Nat.lt_succ_iff_lt_or_eq.1 hj with hj | rfl
          · exact .inl ⟨j, hj, e⟩
          · exact .inr e
    · rw [if_neg hk, List.append_nil]
      refine ⟨h1, fun x => ?_⟩
      rw [h2]
      have h3 := of_decide_eq_false (by simpa using hk : Lib.keeps d m = false)
      rw [not_or] at h3
      constructor
      · rintro ⟨j, hj, e⟩; exact ⟨j, by omega, e⟩
      · rintro ⟨j, hj, e⟩
        rcases Nat.lt_succ_iff_lt_or_eq.1 hj with hj | rfl
        · exact ⟨j, hj, e⟩
        · exact ⟨j - 1, by omega, by rw [e]; exact Decidable.not_not.1 h3.2⟩
theorem strL_lstB {L : List (List UInt8)} {n : Nat} (h : L.length = n) : strL n (lstB L) = L := by
  apply List.ext_getElem
  · rw [strL_len, h]
  · intro i h1 h2
    simp [strL, lstB, List.getD_eq_getElem?_getD, List.getElem?_eq_getElem h2]
theorem acL_s (E : Ent) : (acL E).Nodup ∧ ∀ x, x ∈ acL E ↔ ∃ k, k < 2 * E.n ∧ x = (nmS E k).data.toList := by
  have he : acL E = Lib.compact (srtL (2 * E.n) (nmS E)) := by
    unfold acL cmpL
    rw [strL_lstB (srtL_len _ _)]
  have hp : (srtL (2 * E.n) (nmS E)).Pairwise fun x y => decide (x ≤ y) = true :=
    List.pairwise_mergeSort (fun a b c h1 h2 => by simp only [decide_eq_true_eq] at *; exact List.le_trans h1 h2) (fun a b => by simp only [Bool.or_eq_true, decide_eq_true_eq]; exact List.le_total a b) _
  have hl := srtL_len (2 * E.n) (nmS E)
  obtain ⟨h1, h2⟩ := cmp_inv (d := (srtL (2 * E.n) (nmS E)).toArray) (le := fun x y => x ≤ y) (fun x y a b => List.le_antisymm a b) (n := (srtL (2 * E.n) (nmS E)).length) (fun i j hij hj => by
    rcases Nat.eq_or_lt_of_le hij with rfl | hlt
    · exact List.le_refl _
    · rw [getElem!_pos _ i (by simp; omega), getElem!_pos _ j (by simpa using hj)]
      have := List.pairwise_iff_getElem.1 hp i j (by omega) hj hlt
      simpa using this) _ (Nat.le_refl _)
  rw [he]
  refine ⟨h1, fun x => ?_⟩
  rw [show x ∈ Lib.compact (srtL (2 * E.n) (nmS E)) ↔ _ from h2 x]
  have hm : x ∈ srtL (2 * E.n) (nmS E) ↔ x ∈ strL (2 * E.n) (nmS E) := List.mem_mergeSort
  constructor
  · rintro ⟨j, hj, e⟩
    have hx : x ∈ srtL (2 * E.n) (nmS E) := by
      rw [e, getElem!_pos _ j (by simpa using hj)]
      simp
    rw [hm] at hx
    simp only [strL, List.mem_map, List.mem_range] at hx
    obtain ⟨k, hk, e2⟩ := hx
    exact ⟨k, hk, e2.symm⟩
  · rintro ⟨k, hk, e⟩
    have hx : x ∈ srtL (2 * E.n) (nmS E) := by
      rw [hm]
      simp only [strL, List.mem_map, List.mem_range]
      exact ⟨k, hk, e.symm⟩
    obtain ⟨j, hj, e2⟩ := List.getElem_of_mem hx
    exact ⟨j, hj, by rw [getElem!_pos _ j (by simpa using hj)]; simpa using e2.symm⟩
theorem cntEq (E : Ent) : acN E = (nmF E E.n).length := by
  by_cases h0 : E.n = 0
  · have e : acN E = 0 := if_pos h0
    rw [e, h0]
    rfl
  · have e : acN E = (acL E).length := if_neg h0
    obtain ⟨a1, a2⟩ := acL_s E
    obtain ⟨b1, b2⟩ := nmF_s E E.n
    rw [e, ← List.length_map (fun s : ByteArray => s.data.toList)]
    refine nodup_len a1 (List.Pairwise.map _ (fun a b hab e => ?_) b1.nodup) fun x => ?_
    · exact hab (ByteArray.ext (Array.toList_inj.1 e))
    · rw [a2, List.mem_map]
      constructor
      · rintro ⟨k, hk, rfl⟩
        refine ⟨nmS E k, (b2 _).2 ⟨k / 2, by omega, ?_⟩, rfl⟩
        unfold nmS
        split
        · exact .inl rfl
        · exact .inr rfl
      · rintro ⟨s, hs, rfl⟩
        obtain ⟨k, hk, h⟩ := (b2 s).1 hs
        rcases h with rfl | rfl
        · refine ⟨2 * k, by omega, ?_⟩
          unfold nmS
          rw [if_pos (by omega), show 2 * k / 2 = k by omega]
        · refine ⟨2 * k + 1, by omega, ?_⟩
          unfold nmS
          rw [if_neg (by omega), show (2 * k + 1) / 2 = k by omega]
end Go.Proofs.YtjfnhehjhicnoaaDoor
