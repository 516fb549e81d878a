/-
  commit: Cost of the schedules of a permitted pattern.
-/
import Derived.Test.YtemfikdogdadnaaCbT
namespace Go.Proofs.Ytemfikdogdadnaa
open Go.RowKit

/-- the permitted patterns of generator i -/
abbrev pA (G : Cgx) (nd i : Nat) : List Nat := dgL (pOk (G.u i) nd) (2 ^ nd)
def prA (G : Cgx) (nd : Nat) : Nat → List (List Nat)
  | 0 => [[]]
  | i + 1 => (prA G nd i).flatMap fun a => (pA G nd i).map fun b => a ++ [b]
theorem dgL_mem {ok : Nat → Bool} {b : Nat} : ∀ {N : Nat}, b ∈ dgL ok N ↔ b < N ∧ ok b = true
  | 0 => ⟨fun h => (by cases h), fun h => absurd h.1 (Nat.not_lt_zero b)⟩
  | N + 1 => by
    simp only [dgL]
    split
    · rename_i ho
      rw [List.mem_append, dgL_mem, List.mem_singleton]
      exact ⟨fun h => by
        rcases h with ⟨h1, h2⟩ | rfl
        · exact ⟨by omega, h2⟩
        · exact ⟨Nat.lt_succ_self _, ho⟩, fun ⟨h1, h2⟩ => by
        rcases Nat.lt_succ_iff_lt_or_eq.1 h1 with h1 | rfl
        · exact .inl ⟨h1, h2⟩
        · exact .inr rfl⟩
    · rename_i ho
      rw [dgL_mem]
      exact ⟨fun ⟨h1, h2⟩ => ⟨by omega, h2⟩, fun ⟨h1, h2⟩ => ⟨by
        rcases Nat.lt_succ_iff_lt_or_eq.1 h1 with h1 | rfl
        · exact h1
        · exact absurd h2 ho, h2⟩⟩
theorem prA_mem {G : Cgx} {nd : Nat} : ∀ {i : Nat} {a : List Nat}, a ∈ prA G nd i ↔ a.length = i ∧ ∀ k, k < i → a.getD k 0 ∈ pA G nd k
  | 0, a => by
    show a ∈ [[]] ↔ _
    rw [List.mem_singleton]
    exact ⟨fun h => ⟨by rw [h]; rfl, fun k hk => absurd hk (Nat.not_lt_zero k)⟩, fun h => List.length_eq_zero_iff.1 h.1⟩
  | i + 1, a => by
    show a ∈ (prA G nd i).flatMap _ ↔ _
    rw [List.mem_flatMap]
    constructor
    · rintro ⟨c, h1, h2⟩
      obtain ⟨b, h3, rfl⟩ := List.mem_map.1 h2
      obtain ⟨g1, g2⟩ := prA_mem.1 h1
      refine ⟨by rw [List.length_append, g1]; rfl, fun k hk => ?_⟩
      rcases Nat.lt_succ_iff_lt_or_eq.1 hk with hk | rfl
      · rw [List.getD_eq_getElem?_getD, List.getElem?_append_left (by omega), ← List.getD_eq_getElem?_getD]
        exact g2 k hk
      · rw [List.getD_eq_getElem?_getD, List.getElem?_append_right (by omega), g1, Nat.sub_self]
        exact h3
    · rintro ⟨h1, h2⟩
      refine ⟨a.take i, prA_mem.2 ⟨by rw [List.length_take]; omega, fun k hk => ?_⟩, List.mem_map.2 ⟨a.getD i 0, h2 i (Nat.lt_succ_self i), ?_⟩⟩
      · rw [List.getD_eq_getElem?_getD, List.getElem?_take, if_pos hk, ← List.getD_eq_getElem?_getD]
        exact h2 k (by omega)
      · have hlt : i < a.length := by omega
        rw [List.getD_eq_getElem?_getD, List.getElem?_eq_getElem hlt]
        show a.take i ++ [a[i]] = a
        rw [List.take_append_getElem hlt, List.take_of_length_le (by omega)]
theorem prA_len {G : Cgx} {nd : Nat} (hd : nd ≤ 4) : ∀ i, (prA G nd i).length ≤ 16 ^ i
  | 0 => by simp [prA]
  | i + 1 => by
    have h1 := prA_len hd (G := G) i
    have h2 : (pA G nd i).length ≤ 16 := Nat.le_trans (dgL_len _ _) (Nat.pow_le_pow_right (by decide) hd)
    have key : ∀ l : List (List Nat), (l.flatMap fun a => (pA G nd i).map fun b => a ++ [b]).length ≤ l.length * 16 := fun l => by
      induction l with
      | nil => simp
      | cons x l ih =>
        rw [List.flatMap_cons, List.length_append, List.length_map, List.length_cons]
        omega
    have h3 := key (prA G nd i)
    show ((prA G nd i).flatMap _).length ≤ _
    rw [Nat.pow_succ]
    omega
/-- the patterns of the periods -/
def hA (n : Nat) (a : List Nat) (t : Nat) : Nat := bitsF (fun i => (a.getD i 0).testBit t) n
theorem hA_bit {n : Nat} {a : List Nat} {t i : Nat} (hi : i < n) : (hA n a t).testBit i = (a.getD i 0).testBit t := bitsF_at _ n i hi
section
variable {G : Cgx} (hG : G.ok) {D : Nat → Int} {nd : Nat} (hd : nd ≤ 8)
include hG hd
theorem hA_fe {a : List Nat} (ha : a ∈ prA G nd G.n) : (feH G D nd (hA G.n a) ↔ ∀ t, t < nd → G.can (bitsN (hA G.n a t)) (D t) = true) ∧ csH G D nd (hA G.n a) = S (fun i => pCo (G.u i) nd (a.getD i 0)) G.n + S (fun t => G.sC (bitsN (hA G.n a t)) (D t)) nd := by
  obtain ⟨h1, h2⟩ := prA_mem.1 ha
  have hb : ∀ i, i < G.n → ∀ t, t < nd → (bt (a.getD i 0) t = 1 ↔ (hA G.n a t).testBit i = true) := fun i hi t ht => by
    have hm := (dgL_mem.1 (h2 i hi)).1
    have hp : 2 ^ nd ≤ 256 := Nat.pow_le_pow_right (by decide) hd
    rw [hA_bit hi, bt8 t (by omega) _ (by omega)]
  have hk : ∀ i, i < G.n → ∀ t, t < nd → uk (G.u i) (fun τ => (hA G.n a τ).testBit i) t = true := fun i hi => (pOk_fit (hG.v i hi) hd (hb i hi)).1.1 (dgL_mem.1 (h2 i hi)).2
  refine ⟨⟨fun h t ht => (h t ht).2.2, fun h t ht => ⟨bitsF_lt _ _, fun i hi => hk i hi t ht, h t ht⟩⟩, ?_⟩
  rw [csH_eq]
  congr 1
  exact S_congr fun i hi => ((pOk_fit (hG.v i hi) hd (hb i hi)).2 (hk i hi)).symm
theorem hA_ex {h : Nat → Nat} (hf : feH G D nd h) : ∃ a ∈ prA G nd G.n, ∀ t, t < nd → hA G.n a t = h t := by
  refine ⟨(List.range G.n).map fun i => bitsF (fun t => (h t).testBit i) nd, prA_mem.2 ⟨by simp, fun k hk => ?_⟩, fun t ht => ?_⟩
  · have e : ((List.range G.n).map fun i => bitsF (fun t => (h t).testBit i) nd).getD k 0 = bitsF (fun t => (h t).testBit k) nd := by
      rw [List.getD_eq_getElem?_getD, List.getElem?_map, List.getElem?_range hk]
      rfl
    rw [e]
    exact dgL_mem.2 ⟨bitsF_lt _ _, (pOk_fit (hG.v k hk) hd fun t ht => btF (o := fun t => (h t).testBit k) hd ht).1.2 fun t ht => (hf t ht).2.1 k hk⟩
  · refine Nat.eq_of_testBit_eq fun i => ?_
    by_cases hi : i < G.n
    · rw [hA_bit hi, List.getD_eq_getElem?_getD, List.getElem?_map, List.getElem?_range hi]
      exact bitsF_at (fun t => (h t).testBit i) nd t ht
    · have h1 : hA G.n ((List.range G.n).map fun i => bitsF (fun t => (h t).testBit i) nd) t < 2 ^ i := Nat.lt_of_lt_of_le (bitsF_lt _ _) (Nat.pow_le_pow_right (by decide) (by omega))
      have h2 : h t < 2 ^ i := Nat.lt_of_lt_of_le (hf t ht).1 (Nat.pow_le_pow_right (by decide) (by omega))
      rw [Nat.testBit_lt_two_pow h1, Nat.testBit_lt_two_pow h2]
end
theorem bt01 : ∀ t : Nat, t < 8 → ∀ b : Nat, b < 256 → bt b t = if b.testBit t = true then 1 else 0 := by decide +kernel
/-- the rows of a pattern; the cell of a list of patterns -/
def prow (G : Cgx) (nd k b : Nat) : L := .sl 1 (nd + 1) (c1 fun t => if t < nd then bt b t else pCo (G.u k) nd b)
def niC (G : Cgx) (nd i : Nat) (a : List Nat) : L := .sl 1 i fun k _ => prow G nd k (a.getD k 0)
abbrev niR (G : Cgx) (nd i : Nat) : Nat → Nat → L := fun m _ => niC G nd i ((prA G nd i).getD m [])
theorem pattG (G : Cgx) (nd i : Nat) (hd : nd ≤ 8) (hu : staE (G.u i).r (G.u i).on (G.u i).si (G.u i).po = 0) : Fn Try.prog 31 [cuV (G.u i), intV nd] (fun obs v => obs = [] ∧ v = .c (.sl 1 (pA G nd i).length fun k _ => prow G nd i ((pA G nd i).getD k 0))) :=
  (patt (G.u i) nd hd hu).res fun obs r ⟨h1, h2⟩ => by
    subst h2
    refine ⟨_, ⟨h1, rfl⟩, Le1.l (LLe.sl fun k hk j hj => LLe.sl fun t ht z hz => ?_)⟩
    obtain rfl : z = 0 := by omega
    refine LLe.of_eq ?_
    show (if t < nd then iL (bt _ t) else [iL (pCo (G.u i) nd _)][(t - nd) * 1 + 0]?.getD (L.v undef)) = iL (if t < nd then bt _ t else pCo (G.u i) nd _)
    by_cases h : t < nd
    · rw [if_pos h, if_pos h]
    · rw [if_neg h, if_neg h, show (t - nd) * 1 + 0 = 0 by omega]
      rfl
/-- the lists while they grow -/
def ls4 (A : List (List Nat)) (P : List Nat) (m : Nat) : List (List Nat) := (A.take m).flatMap fun a => P.map fun b => a ++ [b]
def ls6 (A : List (List Nat)) (P : List Nat) (m j : Nat) : List (List Nat) := ls4 A P m ++ (P.take j).map fun b => A.getD m [] ++ [b]
theorem ls4_len {A : List (List Nat)} {P : List Nat} (hP : P.length ≤ 16) {m : Nat} (hm : m ≤ A.length) : (ls4 A P m).length ≤ 16 * m := by
  have key : ∀ l : List (List Nat), (l.flatMap fun a => P.map fun b => a ++ [b]).length ≤ 16 * l.length := fun l => by
    induction l with
    | nil => simp
    | cons x l ih =>
      rw [List.flatMap_cons, List.length_append, List.length_map, List.length_cons]
      omega
  have := key (A.take m)
  rw [List.length_take] at this
  unfold ls4
  omega
theorem ls6_0 (A : List (List Nat)) (P : List Nat) (m : Nat) : ls6 A P m 0 = ls4 A P m := by simp [ls6]
theorem ls6_s {A : List (List Nat)} {P : List Nat} {m j : Nat} (hj : j < P.length) : ls6 A P m (j + 1) = ls6 A P m j ++ [A.getD m [] ++ [P.getD j 0]] := by
  unfold ls6
  rw [List.take_add_one, List.map_append, List.append_assoc, List.getElem?_eq_getElem hj]
  simp [List.getD, List.getElem?_eq_getElem hj]
theorem ls6_all {A : List (List Nat)} {P : List Nat} {m : Nat} (hm : m < A.length) : ls6 A P m P.length = ls4 A P (m + 1) := by
  unfold ls6 ls4
  rw [List.take_length, List.take_add_one, List.flatMap_append, List.getElem?_eq_getElem hm]
  simp [List.getD, List.getElem?_eq_getElem hm]
theorem ls6_len {A : List (List Nat)} {P : List Nat} (hP : P.length ≤ 16) {m j : Nat} (hm : m ≤ A.length) (hj : j ≤ P.length) : (ls6 A P m j).length ≤ 16 * m + j := by
  have := ls4_len hP hm
  unfold ls6
  rw [List.length_append, List.length_map, List.length_take]
  omega
theorem ls4_all (A : List (List Nat)) (P : List Nat) : ls4 A P A.length = A.flatMap fun a => P.map fun b => a ++ [b] := by
  unfold ls4
  rw [List.take_length]
/-- one cell behind a row -/
def apL (n : Nat) (F : Nat → Nat → L) (l : L) : Nat → Nat → L := fun k j => if k < n then F k j else ([l][(k - n) * 1 + j]?).getD (.v undef)
theorem apL_le {W : List (List Nat)} {F : Nat → Nat → L} {l : L} {a : List Nat} {G : Cgx} {nd i : Nat} (hF : ∀ m, m < W.length → LLe (F m 0) (niC G nd i (W.getD m []))) (hl : LLe l (niC G nd i a)) : ∀ m, m < (W ++ [a]).length → LLe (apL W.length F l m 0) (niC G nd i ((W ++ [a]).getD m [])) := fun m hm => by
  rw [List.length_append] at hm
  have hm : m < W.length + 1 := hm
  unfold apL
  by_cases h : m < W.length
  · rw [if_pos h, List.getD_eq_getElem?_getD, List.getElem?_append_left h, ← List.getD_eq_getElem?_getD]
    exact hF m h
  · obtain rfl : m = W.length := by omega
    rw [if_neg h, List.getD_eq_getElem?_getD, List.getElem?_append_right (Nat.le_refl _), Nat.sub_self]
    exact hl
/-- a list's cell as the program makes it -/
def rawC (G : Cgx) (nd i : Nat) (a : List Nat) (b : Nat) : L := .sl 1 (0 + i + 1) fun k j => if k < 0 + i then (if k < 0 then (([] : List L)[k * 1 + j]?).getD (.v undef) else prow G nd (k - 0) (a.getD (k - 0) 0)) else ([prow G nd i b][(k - (0 + i)) * 1 + j]?).getD (.v undef)
theorem rawC_le {G : Cgx} {nd i : Nat} {a : List Nat} {b : Nat} (ha : a.length = i) : LLe (rawC G nd i a b) (niC G nd (i + 1) (a ++ [b])) := by
  unfold rawC niC
  rw [Nat.zero_add]
  refine LLe.sl fun k hk j hj => LLe.of_eq ?_
  obtain rfl : j = 0 := by omega
  by_cases h : k < i
  · rw [if_pos h, if_neg (Nat.not_lt_zero k), Nat.sub_zero, List.getD_eq_getElem?_getD, List.getD_eq_getElem?_getD, List.getElem?_append_left (by omega)]
  · obtain rfl : k = i := by omega
    rw [if_neg h, Nat.sub_self, List.getD_eq_getElem?_getD, List.getElem?_append_right (by omega), ha, Nat.sub_self]
    rfl
/-- the first t periods can be served -/
def canA (G : Cgx) (D : Nat → Int) (a : List Nat) : Nat → Bool
  | 0 => true
  | t + 1 => canA G D a t && G.can (bitsN (hA G.n a t)) (D t)
theorem canA_iff {G : Cgx} {D : Nat → Int} {a : List Nat} : ∀ {T : Nat}, canA G D a T = true ↔ ∀ t, t < T → G.can (bitsN (hA G.n a t)) (D t) = true
  | 0 => ⟨fun _ t ht => absurd ht (Nat.not_lt_zero t), fun _ => rfl⟩
  | T + 1 => by
    show (canA G D a T && _) = true ↔ _
    rw [Bool.and_eq_true, canA_iff]
    exact ⟨fun ⟨h1, h2⟩ t ht => by
      rcases Nat.lt_succ_iff_lt_or_eq.1 ht with ht | rfl
      · exact h1 t ht
      · exact h2, fun h => ⟨fun t ht => h t (by omega), h T (Nat.lt_succ_self T)⟩⟩
end Go.Proofs.Ytemfikdogdadnaa

namespace Go.Proofs.Ytemfikdogdadnaa
open Go.RowKit

theorem cbEql (n : Nat) (x y : Nat → Int) (hn : n ≤ 1000) (h : ∀ i, i < n → x i = y i) : Fn1 Try.prog 69 [.c (.sl 1 n (c1 x)), .c (.sl 1 n (c1 y))] (boolV true) := by
  refine fn_of_wpx (O := lex) tab_ok (Γ := fun _ => none) (fun _ _ h => by cases h) mixed Try.func69 (by kernel_rfl) rfl rfl rfl (by simp [Try.ntmps69]) (by kernel_rfl) ?_
  conv => whnf
  repeat' (first
    | (refine NilG.mk fun bn hbn hbx => ?_; conv => whnf)
    | (refine Both.mk ?_ ?_ <;> conv => whnf)
    | ((first | (refine MkG.box 1 rfl rfl rfl (by decide) ?_) | (refine MkG.box 2 rfl rfl rfl (by decide) ?_) | (refine MkG.box 3 rfl rfl rfl (by decide) ?_) | (refine MkG.row ?_)); conv => whnf)
    | exact trivial
    | (refine Br.mk (fun hb => ?_) (fun hb => ?_) <;> (first | (exfalso; revert hb; decide) | ((try simp only [BL] at hb) <;> (try simp only [DL] at hb) <;> (first | (exfalso; omega) | (conv => whnf)))))
    | (refine And.intro ?_ ?_; (focus (first | exact id | exact rfl | exact trivial | (intro hg; first | exact hg | exact rfl | (simp; done) | (simp at hg ⊢; assumption)) | omega | decide | exact is2_c _ _ _ | exact is1_c _ _ | exact isS_c _ _ | exact isB_c _ _ | exact Nat.le_refl _ | assumption | exact mulLe (by decide) (by omega) | exact mulLe2 (by decide) (by omega) (by omega) | (intros; simp only [BL] at *; omega) | (intros; (try simp only [BL] at *); (try simp only [DL] at *); omega) | (intros; simp only [BL] at *; rw [wr_id (by omega) (by omega)]; omega) | (intro h1 h2; exact Bool.and_eq_true_iff.2 ⟨h1, h2⟩) | (intros; simp_all; done))); conv => whnf)
    | (refine Or.inr (And.intro rfl ?_); first | (refine congrArg intV ?_) | (refine congrArg boolV ?_) | (refine tupII ?_ ?_) | (refine tupIII ?_ ?_ ?_) | (refine tupU ?_ ?_ ?_ ?_ ?_) | exact rfl))
  · exact absurd trivial hb
  refine sem_loop tab_ok gamN1_ok mixed (by kernel_rfl) (O := lex) (fun i : Nat => ⟨[(0, .c (.sl 1 n (c1 x))), (1, .c (.sl 1 n (c1 y))), (12, intV n), (13, intV i)], []⟩) (fun i => i ≤ n) (fun i => n - i) ⟨0, [], Nat.zero_le _, ?_⟩ fun i hi => ?_
  · refine Sub.of ?_ ?_ ?_
    repeat' (first | (refine And.intro ?_ ?_) | exact trivial | exact fun _ _ _ => hsc _ _ | (exact congrArg intV (by first | with_reducible rfl | with_reducible assumption)) | exact (rfl : AV.idsLt _ _ = true) | exact (rfl : _ = AV.ren _ (.own _)) | exact (rfl : _ = AV.ren _ (.fn _ _)) | exact (rfl : _ = AV.ren _ (.gh _)) | (exact congrArg intV (by assumption)) | (refine congrArg intV ((wr_id (by omega) (by omega)).trans (by omega))) | exact rfl | (simp only [Int.toNat_natCast, Int.toNat_zero, Nat.sub_zero, Nat.zero_add]; first | exact rfl | done) | exact all0 | exact fun h => Bool.noConfusion h | exact fun _ _ _ _ => rfl | omega)
  conv => whnf
  repeat' (first
    | (refine NilG.mk fun bn hbn hbx => ?_; conv => whnf)
    | (refine Both.mk ?_ ?_ <;> conv => whnf)
    | ((first | (refine MkG.box 1 rfl rfl rfl (by decide) ?_) | (refine MkG.box 2 rfl rfl rfl (by decide) ?_) | (refine MkG.box 3 rfl rfl rfl (by decide) ?_) | (refine MkG.row ?_)); conv => whnf)
    | exact trivial
    | (refine Br.mk (fun hb => ?_) (fun hb => ?_) <;> (first | (exfalso; revert hb; decide) | ((try simp only [BL] at hb) <;> (try simp only [DL] at hb) <;> (first | (exfalso; omega) | (conv => whnf)))))
    | (refine And.intro ?_ ?_; (focus (first | exact id | exact rfl | exact trivial | (intro hg; first | exact hg | exact rfl | (simp; done) | (simp at hg ⊢; assumption)) | omega | decide | exact is2_c _ _ _ | exact is1_c _ _ | exact isS_c _ _ | exact isB_c _ _ | exact Nat.le_refl _ | assumption | exact mulLe (by decide) (by omega) | exact mulLe2 (by decide) (by omega) (by omega) | (intros; simp only [BL] at *; omega) | (intros; (try simp only [BL] at *); (try simp only [DL] at *); omega) | (intros; simp only [BL] at *; rw [wr_id (by omega) (by omega)]; omega) | (intro h1 h2; exact Bool.and_eq_true_iff.2 ⟨h1, h2⟩) | exact ⟨rfl, by omega, by decide⟩ | (intros; simp_all; done))); conv => whnf)
    | (refine Or.inr (And.intro rfl ?_); first | (refine congrArg intV ?_) | (refine congrArg boolV ?_) | (refine tupII ?_ ?_) | (refine tupIII ?_ ?_ ?_) | (refine tupU ?_ ?_ ?_ ?_ ?_) | exact rfl))
  · exfalso
    exact hb (h i (by omega))
  · refine ⟨i + 1, [], by omega, by omega, ?_⟩
    refine Sub.of ?_ ?_ ?_
    repeat' (first | (refine And.intro ?_ ?_) | exact trivial | exact fun _ _ _ => hsc _ _ | (exact congrArg intV (by first | with_reducible rfl | with_reducible assumption)) | exact (rfl : AV.idsLt _ _ = true) | exact (rfl : _ = AV.ren _ (.own _)) | exact (rfl : _ = AV.ren _ (.fn _ _)) | exact (rfl : _ = AV.ren _ (.gh _)) | (exact congrArg intV (by assumption)) | (refine congrArg intV ((wr_id (by omega) (by omega)).trans (by omega))) | exact rfl | (simp only [Int.toNat_natCast, Int.toNat_zero, Nat.sub_zero, Nat.zero_add]; first | exact rfl | done) | exact all0 | exact fun h => Bool.noConfusion h | exact fun _ _ _ _ => rfl | omega)
  · rfl
abbrev capC (ls : List L) : Nat → L := fun j => (ls[0 + j]?).getD .un
theorem cbLn1 (m nd : Nat) (g : Nat → Nat → L) (D : Nat → Int) (hm : m = nd) : Fn1 Try.prog 67 [.c (.sl 1 m g), .xp 1 (capC [.sl 1 nd (c1 D)])] (boolV false) := by
  refine fn_of_wpx (O := lex) tab_ok (Γ := fun _ => none) (fun _ _ h => by cases h) mixed Try.func67 (by kernel_rfl) rfl rfl rfl (by simp [Try.ntmps67]) (by kernel_rfl) ?_
  conv => whnf
  repeat' (first
    | (refine NilG.mk fun bn hbn hbx => ?_; conv => whnf)
    | (refine Both.mk ?_ ?_ <;> conv => whnf)
    | ((first | (refine MkG.box 1 rfl rfl rfl (by decide) ?_) | (refine MkG.box 2 rfl rfl rfl (by decide) ?_) | (refine MkG.box 3 rfl rfl rfl (by decide) ?_) | (refine MkG.row ?_)); conv => whnf)
    | exact trivial
    | (refine Br.mk (fun hb => ?_) (fun hb => ?_) <;> (first | (exfalso; revert hb; decide) | ((try simp only [BL] at hb) <;> (try simp only [DL] at hb) <;> (first | (exfalso; omega) | (conv => whnf)))))
    | (refine And.intro ?_ ?_; (focus (first | exact id | exact rfl | exact trivial | (intro hg; first | exact hg | exact rfl | (simp; done) | (simp at hg ⊢; assumption)) | omega | decide | exact is2_c _ _ _ | exact is1_c _ _ | exact isS_c _ _ | exact isB_c _ _ | exact Nat.le_refl _ | assumption | exact mulLe (by decide) (by omega) | exact mulLe2 (by decide) (by omega) (by omega) | (intros; simp only [BL] at *; omega) | (intros; (try simp only [BL] at *); (try simp only [DL] at *); omega) | (intros; simp only [BL] at *; rw [wr_id (by omega) (by omega)]; omega) | (intro h1 h2; exact Bool.and_eq_true_iff.2 ⟨h1, h2⟩) | (intros; simp_all; done))); conv => whnf)
    | (refine Or.inr (And.intro rfl ?_); first | (refine congrArg intV ?_) | (refine congrArg boolV ?_) | (refine tupII ?_ ?_) | (refine tupIII ?_ ?_ ?_) | (refine tupU ?_ ?_ ?_ ?_ ?_) | exact rfl))
  rw [hm]
  simp
theorem cbLnI (n nd : Nat) (F : Nat → Nat → Nat → L) (D : Nat → Int) (hn : n ≤ 1000) : Fn1 Try.prog 100 [.c (.sl 1 n fun k _ => .sl 1 nd (F k)), .fn 67 [.xp 1 (capC [.sl 1 nd (c1 D)])]] (intV (-1)) := by
  refine fn_of_wpx (O := lex) tab_ok (Γ := fun _ => none) (fun _ _ h => by cases h) mixed Try.func100 (by kernel_rfl) rfl rfl rfl (by simp [Try.ntmps100]) (by kernel_rfl) ?_
  conv => whnf
  repeat' (first
    | (refine NilG.mk fun bn hbn hbx => ?_; conv => whnf)
    | (refine Both.mk ?_ ?_ <;> conv => whnf)
    | ((first | (refine MkG.box 1 rfl rfl rfl (by decide) ?_) | (refine MkG.box 2 rfl rfl rfl (by decide) ?_) | (refine MkG.box 3 rfl rfl rfl (by decide) ?_) | (refine MkG.row ?_)); conv => whnf)
    | exact trivial
    | (refine Br.mk (fun hb => ?_) (fun hb => ?_) <;> (first | (exfalso; revert hb; decide) | ((try simp only [BL] at hb) <;> (try simp only [DL] at hb) <;> (first | (exfalso; omega) | (conv => whnf)))))
    | (refine And.intro ?_ ?_; (focus (first | exact id | exact rfl | exact trivial | (intro hg; first | exact hg | exact rfl | (simp; done) | (simp at hg ⊢; assumption)) | omega | decide | exact is2_c _ _ _ | exact is1_c _ _ | exact isS_c _ _ | exact isB_c _ _ | exact Nat.le_refl _ | assumption | exact mulLe (by decide) (by omega) | exact mulLe2 (by decide) (by omega) (by omega) | (intros; simp only [BL] at *; omega) | (intros; (try simp only [BL] at *); (try simp only [DL] at *); omega) | (intros; simp only [BL] at *; rw [wr_id (by omega) (by omega)]; omega) | (intro h1 h2; exact Bool.and_eq_true_iff.2 ⟨h1, h2⟩) | (intros; simp_all; done))); conv => whnf)
    | (refine Or.inr (And.intro rfl ?_); first | (refine congrArg intV ?_) | (refine congrArg boolV ?_) | (refine tupII ?_ ?_) | (refine tupIII ?_ ?_ ?_) | (refine tupU ?_ ?_ ?_ ?_ ?_) | exact rfl))
  refine sem_loop tab_ok gamN1_ok mixed (by kernel_rfl) (O := lex) (fun i : Nat => ⟨[(0, .c (.sl 1 n fun k _ => .sl 1 nd (F k))), (1, .fn 67 [.xp 1 (capC [.sl 1 nd (c1 D)])]), (7, intV n), (8, intV i)], []⟩) (fun i => i ≤ n) (fun i => n - i) ⟨0, [], Nat.zero_le _, ?_⟩ fun i hi => ?_
  · refine Sub.of ?_ ?_ ?_
    repeat' (first | (refine And.intro ?_ ?_) | exact trivial | exact fun _ _ _ => hsc _ _ | (exact congrArg intV (by first | with_reducible rfl | with_reducible assumption)) | exact (rfl : AV.idsLt _ _ = true) | exact (rfl : _ = AV.ren _ (.own _)) | exact (rfl : _ = AV.ren _ (.fn _ _)) | exact (rfl : _ = AV.ren _ (.gh _)) | (exact congrArg intV (by assumption)) | (refine congrArg intV ((wr_id (by omega) (by omega)).trans (by omega))) | exact rfl | (simp only [Int.toNat_natCast, Int.toNat_zero, Nat.sub_zero, Nat.zero_add]; first | exact rfl | done) | exact all0 | exact fun h => Bool.noConfusion h | exact fun _ _ _ _ => rfl | omega)
  by_cases hin : i < n
  · conv => whnf
    repeat' (first
      | (refine NilG.mk fun bn hbn hbx => ?_; conv => whnf)
      | (refine Both.mk ?_ ?_ <;> conv => whnf)
      | ((first | (refine MkG.box 1 rfl rfl rfl (by decide) ?_) | (refine MkG.box 2 rfl rfl rfl (by decide) ?_) | (refine MkG.box 3 rfl rfl rfl (by decide) ?_) | (refine MkG.row ?_)); conv => whnf)
      | exact trivial
      | (refine Br.mk (fun hb => ?_) (fun hb => ?_) <;> (first | (exfalso; revert hb; decide) | ((try simp only [BL] at hb) <;> (try simp only [DL] at hb) <;> (first | (exfalso; omega) | (conv => whnf)))))
      | (refine And.intro ?_ ?_; (focus (first | exact id | exact rfl | exact trivial | (intro hg; first | exact hg | exact rfl | (simp; done) | (simp at hg ⊢; assumption)) | omega | decide | exact is2_c _ _ _ | exact is1_c _ _ | exact isS_c _ _ | exact isB_c _ _ | exact Nat.le_refl _ | assumption | exact mulLe (by decide) (by omega) | exact mulLe2 (by decide) (by omega) (by omega) | (intros; simp only [BL] at *; omega) | (intros; (try simp only [BL] at *); (try simp only [DL] at *); omega) | (intros; simp only [BL] at *; rw [wr_id (by omega) (by omega)]; omega) | (intro h1 h2; exact Bool.and_eq_true_iff.2 ⟨h1, h2⟩) | exact ⟨rfl, by omega, by decide⟩ | (intros; simp_all; done))); conv => whnf)
      | (refine Or.inr (And.intro rfl ?_); first | (refine congrArg intV ?_) | (refine congrArg boolV ?_) | (refine tupII ?_ ?_) | (refine tupIII ?_ ?_ ?_) | (refine tupU ?_ ?_ ?_ ?_ ?_) | exact rfl))
    refine CallG.mk (Fn.mono (cbLn1 nd nd (F i) D rfl) ?_)
    rintro obs r ⟨rfl, rfl⟩
    conv => whnf
    repeat' (first
      | (refine NilG.mk fun bn hbn hbx => ?_; conv => whnf)
      | (refine Both.mk ?_ ?_ <;> conv => whnf)
      | ((first | (refine MkG.box 1 rfl rfl rfl (by decide) ?_) | (refine MkG.box 2 rfl rfl rfl (by decide) ?_) | (refine MkG.box 3 rfl rfl rfl (by decide) ?_) | (refine MkG.row ?_)); conv => whnf)
      | exact trivial
      | (refine Br.mk (fun hb => ?_) (fun hb => ?_) <;> (first | (exfalso; revert hb; decide) | ((try simp only [BL] at hb) <;> (try simp only [DL] at hb) <;> (first | (exfalso; omega) | (conv => whnf)))))
      | (refine And.intro ?_ ?_; (focus (first | exact id | exact rfl | exact trivial | (intro hg; first | exact hg | exact rfl | (simp; done) | (simp at hg ⊢; assumption)) | omega | decide | exact is2_c _ _ _ | exact is1_c _ _ | exact isS_c _ _ | exact isB_c _ _ | exact Nat.le_refl _ | assumption | exact mulLe (by decide) (by omega) | exact mulLe2 (by decide) (by omega) (by omega) | (intros; simp only [BL] at *; omega) | (intros; (try simp only [BL] at *); (try simp only [DL] at *); omega) | (intros; simp only [BL] at *; rw [wr_id (by omega) (by omega)]; omega) | (intro h1 h2; exact Bool.and_eq_true_iff.2 ⟨h1, h2⟩) | (intros; simp_all; done))); conv => whnf)
      | (refine Or.inr (And.intro rfl ?_); first | (refine congrArg intV ?_) | (refine congrArg boolV ?_) | (refine tupII ?_ ?_) | (refine tupIII ?_ ?_ ?_) | (refine tupU ?_ ?_ ?_ ?_ ?_) | exact rfl))
    refine ⟨i + 1, [], (by omega : i + 1 ≤ n), by omega, ?_⟩
    refine Sub.of ?_ ?_ ?_
    repeat' (first | (refine And.intro ?_ ?_) | exact trivial | exact fun _ _ _ => hsc _ _ | (exact congrArg intV (by first | with_reducible rfl | with_reducible assumption)) | exact (rfl : AV.idsLt _ _ = true) | exact (rfl : _ = AV.ren _ (.own _)) | exact (rfl : _ = AV.ren _ (.fn _ _)) | exact (rfl : _ = AV.ren _ (.gh _)) | (exact congrArg intV (by assumption)) | (refine congrArg intV ((wr_id (by omega) (by omega)).trans (by omega))) | exact rfl | (simp only [Int.toNat_natCast, Int.toNat_zero, Nat.sub_zero, Nat.zero_add]; first | exact rfl | done) | exact all0 | exact fun h => Bool.noConfusion h | exact fun _ _ _ _ => rfl | omega)
  obtain rfl : i = n := by omega
  conv => whnf
  repeat' (first
    | (refine NilG.mk fun bn hbn hbx => ?_; conv => whnf)
    | (refine Both.mk ?_ ?_ <;> conv => whnf)
    | ((first | (refine MkG.box 1 rfl rfl rfl (by decide) ?_) | (refine MkG.box 2 rfl rfl rfl (by decide) ?_) | (refine MkG.box 3 rfl rfl rfl (by decide) ?_) | (refine MkG.row ?_)); conv => whnf)
    | exact trivial
    | (refine Br.mk (fun hb => ?_) (fun hb => ?_) <;> (first | (exfalso; revert hb; decide) | ((try simp only [BL] at hb) <;> (try simp only [DL] at hb) <;> (first | (exfalso; omega) | (conv => whnf)))))
    | (refine And.intro ?_ ?_; (focus (first | exact id | exact rfl | exact trivial | (intro hg; first | exact hg | exact rfl | (simp; done) | (simp at hg ⊢; assumption)) | omega | decide | exact is2_c _ _ _ | exact is1_c _ _ | exact isS_c _ _ | exact isB_c _ _ | exact Nat.le_refl _ | assumption | exact mulLe (by decide) (by omega) | exact mulLe2 (by decide) (by omega) (by omega) | (intros; simp only [BL] at *; omega) | (intros; (try simp only [BL] at *); (try simp only [DL] at *); omega) | (intros; simp only [BL] at *; rw [wr_id (by omega) (by omega)]; omega) | (intro h1 h2; exact Bool.and_eq_true_iff.2 ⟨h1, h2⟩) | (intros; simp_all; done))); conv => whnf)
    | (refine Or.inr (And.intro rfl ?_); first | (refine congrArg intV ?_) | (refine congrArg boolV ?_) | (refine tupII ?_ ?_) | (refine tupIII ?_ ?_ ?_) | (refine tupU ?_ ?_ ?_ ?_ ?_) | exact rfl))
  all_goals rfl
theorem cbLn (n nd : Nat) (F : Nat → Nat → Nat → L) (D : Nat → Int) (hn : n ≤ 1000) : Fn1 Try.prog 66 [.c (.sl 1 n fun k _ => .sl 1 nd (F k)), .fn 67 [.xp 1 (capC [.sl 1 nd (c1 D)])]] (boolV false) := by
  refine fn_of_wpx (O := lex) tab_ok (Γ := fun _ => none) (fun _ _ h => by cases h) mixed Try.func66 (by kernel_rfl) rfl rfl rfl (by simp [Try.ntmps66]) (by kernel_rfl) ?_
  conv => whnf
  repeat' (first
    | (refine NilG.mk fun bn hbn hbx => ?_; conv => whnf)
    | (refine Both.mk ?_ ?_ <;> conv => whnf)
    | ((first | (refine MkG.box 1 rfl rfl rfl (by decide) ?_) | (refine MkG.box 2 rfl rfl rfl (by decide) ?_) | (refine MkG.box 3 rfl rfl rfl (by decide) ?_) | (refine MkG.row ?_)); conv => whnf)
    | exact trivial
    | (refine Br.mk (fun hb => ?_) (fun hb => ?_) <;> (first | (exfalso; revert hb; decide) | ((try simp only [BL] at hb) <;> (try simp only [DL] at hb) <;> (first | (exfalso; omega) | (conv => whnf)))))
    | (refine And.intro ?_ ?_; (focus (first | exact id | exact rfl | exact trivial | (intro hg; first | exact hg | exact rfl | (simp; done) | (simp at hg ⊢; assumption)) | omega | decide | exact is2_c _ _ _ | exact is1_c _ _ | exact isS_c _ _ | exact isB_c _ _ | exact Nat.le_refl _ | assumption | exact mulLe (by decide) (by omega) | exact mulLe2 (by decide) (by omega) (by omega) | (intros; simp only [BL] at *; omega) | (intros; (try simp only [BL] at *); (try simp only [DL] at *); omega) | (intros; simp only [BL] at *; rw [wr_id (by omega) (by omega)]; omega) | (intro h1 h2; exact Bool.and_eq_true_iff.2 ⟨h1, h2⟩) | (intros; simp_all; done))); conv => whnf)
    | (refine Or.inr (And.intro rfl ?_); first | (refine congrArg intV ?_) | (refine congrArg boolV ?_) | (refine tupII ?_ ?_) | (refine tupIII ?_ ?_ ?_) | (refine tupU ?_ ?_ ?_ ?_ ?_) | exact rfl))
  refine CallG.mk (Fn.mono (cbLnI n nd F D hn) ?_)
  rintro obs r ⟨rfl, rfl⟩
  conv => whnf
  repeat' (first
    | (refine NilG.mk fun bn hbn hbx => ?_; conv => whnf)
    | (refine Both.mk ?_ ?_ <;> conv => whnf)
    | ((first | (refine MkG.box 1 rfl rfl rfl (by decide) ?_) | (refine MkG.box 2 rfl rfl rfl (by decide) ?_) | (refine MkG.box 3 rfl rfl rfl (by decide) ?_) | (refine MkG.row ?_)); conv => whnf)
    | exact trivial
    | (refine Br.mk (fun hb => ?_) (fun hb => ?_) <;> (first | (exfalso; revert hb; decide) | ((try simp only [BL] at hb) <;> (try simp only [DL] at hb) <;> (first | (exfalso; omega) | (conv => whnf)))))
    | (refine And.intro ?_ ?_; (focus (first | exact id | exact rfl | exact trivial | (intro hg; first | exact hg | exact rfl | (simp; done) | (simp at hg ⊢; assumption)) | omega | decide | exact is2_c _ _ _ | exact is1_c _ _ | exact isS_c _ _ | exact isB_c _ _ | exact Nat.le_refl _ | assumption | exact mulLe (by decide) (by omega) | exact mulLe2 (by decide) (by omega) (by omega) | (intros; simp only [BL] at *; omega) | (intros; (try simp only [BL] at *); (try simp only [DL] at *); omega) | (intros; simp only [BL] at *; rw [wr_id (by omega) (by omega)]; omega) | (intro h1 h2; exact Bool.and_eq_true_iff.2 ⟨h1, h2⟩) | (intros; simp_all; done))); conv => whnf)
    | (refine Or.inr (And.intro rfl ?_); first | (refine congrArg intV ?_) | (refine congrArg boolV ?_) | (refine tupII ?_ ?_) | (refine tupIII ?_ ?_ ?_) | (refine tupU ?_ ?_ ?_ ?_ ?_) | exact rfl))
  all_goals rfl
theorem pw_mx {G : Cgx} (hG : G.ok) {D : Nat → Int} {T : Nat} {h : Nat → Nat} (hf : feH G D T h) {i : Nat} (hi : i < G.n) {t : Nat} (ht : t < T) : max 0 (G.sP (bitsN (h t)) (D t) i) = G.pw (bitsN (h t)) (D t) i ∧ 0 ≤ G.pw (bitsN (h t)) (D t) i ∧ G.pw (bitsN (h t)) (D t) i ≤ (G.u i).r.mo := by
  obtain ⟨w1, w2⟩ := (G.pw_b hG (hf t ht).2.2).2 i hi
  have hk := (cuE_all (hG.v i hi)).2.1
  unfold okR at hk
  unfold cLo at w1
  unfold cHi at w2
  show max 0 (if bitsN (h t) i = true then G.pw (bitsN (h t)) (D t) i else -1) = _ ∧ _
  cases ho : bitsN (h t) i with
  | true =>
    rw [ho] at w1 w2
    simp only [if_true] at w1 w2 ⊢
    omega
  | false =>
    rw [ho] at w1 w2
    simp only [Bool.false_eq_true, if_false] at w1 w2 ⊢
    omega
set_option maxHeartbeats 4000000 in
theorem cbCost (G : Cgx) (hG : G.ok) (nd : Nat) (D : Nat → Int) (hcs : csE G.u G.n nd D = 0) (h : Nat → Nat) (hf : feH G D nd h) : Fn1 Try.prog 33 [.c (.sl 13 G.n (cCu G.u)), .c (.sl 1 nd (c1 D)), .c (.sl 1 G.n fun k _ => .sl 1 nd (c1 fun t => G.sP (bitsN (h t)) (D t) k))] (.tup [intV (csH G D nd h), intV 0]) := by
  refine fn_of_wpx (O := lex) tab_ok gamD2_ok mixed Try.func33 (by kernel_rfl) rfl rfl rfl (by simp [Try.ntmps33]) (by kernel_rfl) ?_
  obtain ⟨hn3, h8, hv, hD⟩ := csE_zero hcs
  have hnm : G.n ≤ maxLen := Nat.le_trans hn3 (by decide)
  have hdm : nd ≤ maxLen := Nat.le_trans h8 (by decide)
  conv => whnf
  repeat' (first
    | (refine NilG.mk fun bn hbn hbx => ?_; conv => whnf)
    | (refine Both.mk ?_ ?_ <;> conv => whnf)
    | ((first | (refine MkG.box 1 rfl rfl rfl (by decide) ?_) | (refine MkG.box 2 rfl rfl rfl (by decide) ?_) | (refine MkG.box 3 rfl rfl rfl (by decide) ?_) | (refine MkG.row ?_)); conv => whnf)
    | exact trivial
    | (refine Br.mk (fun hb => ?_) (fun hb => ?_) <;> (first | (exfalso; revert hb; decide) | ((try simp only [BL] at hb) <;> (try simp only [DL] at hb) <;> (first | (exfalso; omega) | (conv => whnf)))))
    | (refine And.intro ?_ ?_; (focus (first | exact id | exact rfl | exact trivial | (intro hg; first | exact hg | exact rfl | (simp; done) | (simp at hg ⊢; assumption)) | omega | decide | exact is2_c _ _ _ | exact is1_c _ _ | exact isS_c _ _ | exact isB_c _ _ | exact Nat.le_refl _ | assumption | exact mulLe (by decide) (by omega) | exact mulLe2 (by decide) (by omega) (by omega) | (intros; simp only [BL] at *; omega) | (intros; (try simp only [BL] at *); (try simp only [DL] at *); omega) | (intros; simp only [BL] at *; rw [wr_id (by omega) (by omega)]; omega) | (intro h1 h2; exact Bool.and_eq_true_iff.2 ⟨h1, h2⟩) | (intros; simp_all; done))); conv => whnf)
    | (refine Or.inr (And.intro rfl ?_); first | (refine congrArg intV ?_) | (refine congrArg boolV ?_) | (refine tupII ?_ ?_) | (refine tupIII ?_ ?_ ?_) | (refine tupU ?_ ?_ ?_ ?_ ?_) | exact rfl))
  refine CallG.mk (Fn.mono (duCheckAll G.u G.n nd D hnm hdm hG.z) ?_)
  rintro obs r ⟨rfl, rfl⟩
  rw [hcs]
  conv => whnf
  repeat' (first
    | (refine NilG.mk fun bn hbn hbx => ?_; conv => whnf)
    | (refine Both.mk ?_ ?_ <;> conv => whnf)
    | ((first | (refine MkG.box 1 rfl rfl rfl (by decide) ?_) | (refine MkG.box 2 rfl rfl rfl (by decide) ?_) | (refine MkG.box 3 rfl rfl rfl (by decide) ?_) | (refine MkG.row ?_)); conv => whnf)
    | exact trivial
    | (refine Br.mk (fun hb => ?_) (fun hb => ?_) <;> (first | (exfalso; revert hb; decide) | ((try simp only [BL] at hb) <;> (try simp only [DL] at hb) <;> (first | (exfalso; omega) | (conv => whnf)))))
    | (refine And.intro ?_ ?_; (focus (first | exact id | exact rfl | exact trivial | (intro hg; first | exact hg | exact rfl | (simp; done) | (simp at hg ⊢; assumption)) | omega | decide | exact is2_c _ _ _ | exact is1_c _ _ | exact isS_c _ _ | exact isB_c _ _ | exact Nat.le_refl _ | assumption | exact mulLe (by decide) (by omega) | exact mulLe2 (by decide) (by omega) (by omega) | (intros; simp only [BL] at *; omega) | (intros; (try simp only [BL] at *); (try simp only [DL] at *); omega) | (intros; simp only [BL] at *; rw [wr_id (by omega) (by omega)]; omega) | (intro h1 h2; exact Bool.and_eq_true_iff.2 ⟨h1, h2⟩) | (intros; simp_all; done))); conv => whnf)
    | (refine Or.inr (And.intro rfl ?_); first | (refine congrArg intV ?_) | (refine congrArg boolV ?_) | (refine tupII ?_ ?_) | (refine tupIII ?_ ?_ ?_) | (refine tupU ?_ ?_ ?_ ?_ ?_) | exact rfl))
  refine And.intro (fun hg => ?_) (fun hg => by exfalso; simp at hg)
  clear hg
  conv => whnf
  repeat' (first
    | (refine NilG.mk fun bn hbn hbx => ?_; conv => whnf)
    | (refine Both.mk ?_ ?_ <;> conv => whnf)
    | ((first | (refine MkG.box 1 rfl rfl rfl (by decide) ?_) | (refine MkG.box 2 rfl rfl rfl (by decide) ?_) | (refine MkG.box 3 rfl rfl rfl (by decide) ?_) | (refine MkG.row ?_)); conv => whnf)
    | exact trivial
    | (refine Br.mk (fun hb => ?_) (fun hb => ?_) <;> (first | (exfalso; revert hb; decide) | ((try simp only [BL] at hb) <;> (try simp only [DL] at hb) <;> (first | (exfalso; omega) | (conv => whnf)))))
    | (refine And.intro ?_ ?_; (focus (first | exact id | exact rfl | exact trivial | (intro hg; first | exact hg | exact rfl | (simp; done) | (simp at hg ⊢; assumption)) | omega | decide | exact is2_c _ _ _ | exact is1_c _ _ | exact isS_c _ _ | exact isB_c _ _ | exact Nat.le_refl _ | assumption | exact mulLe (by decide) (by omega) | exact mulLe2 (by decide) (by omega) (by omega) | (intros; simp only [BL] at *; omega) | (intros; (try simp only [BL] at *); (try simp only [DL] at *); omega) | (intros; simp only [BL] at *; rw [wr_id (by omega) (by omega)]; omega) | (intro h1 h2; exact Bool.and_eq_true_iff.2 ⟨h1, h2⟩) | (intros; simp_all; done))); conv => whnf)
    | (refine Or.inr (And.intro rfl ?_); first | (refine congrArg intV ?_) | (refine congrArg boolV ?_) | (refine tupII ?_ ?_) | (refine tupIII ?_ ?_ ?_) | (refine tupU ?_ ?_ ?_ ?_ ?_) | exact rfl))
  refine CallG.mk (Fn.mono (cbLn G.n nd (fun k => c1 fun t => G.sP (bitsN (h t)) (D t) k) D (by omega)) ?_)
  rintro obs r ⟨rfl, rfl⟩
  conv => whnf
  repeat' (first
    | (refine NilG.mk fun bn hbn hbx => ?_; conv => whnf)
    | (refine Both.mk ?_ ?_ <;> conv => whnf)
    | ((first | (refine MkG.box 1 rfl rfl rfl (by decide) ?_) | (refine MkG.box 2 rfl rfl rfl (by decide) ?_) | (refine MkG.box 3 rfl rfl rfl (by decide) ?_) | (refine MkG.row ?_)); conv => whnf)
    | exact trivial
    | (refine Br.mk (fun hb => ?_) (fun hb => ?_) <;> (first | (exfalso; revert hb; decide) | ((try simp only [BL] at hb) <;> (try simp only [DL] at hb) <;> (first | (exfalso; omega) | (conv => whnf)))))
    | (refine And.intro ?_ ?_; (focus (first | exact id | exact rfl | exact trivial | (intro hg; first | exact hg | exact rfl | (simp; done) | (simp at hg ⊢; assumption)) | omega | decide | exact is2_c _ _ _ | exact is1_c _ _ | exact isS_c _ _ | exact isB_c _ _ | exact Nat.le_refl _ | assumption | exact mulLe (by decide) (by omega) | exact mulLe2 (by decide) (by omega) (by omega) | (intros; simp only [BL] at *; omega) | (intros; (try simp only [BL] at *); (try simp only [DL] at *); omega) | (intros; simp only [BL] at *; rw [wr_id (by omega) (by omega)]; omega) | (intro h1 h2; exact Bool.and_eq_true_iff.2 ⟨h1, h2⟩) | (intros; simp_all; done))); conv => whnf)
    | (refine Or.inr (And.intro rfl ?_); first | (refine congrArg intV ?_) | (refine congrArg boolV ?_) | (refine tupII ?_ ?_) | (refine tupIII ?_ ?_ ?_) | (refine tupU ?_ ?_ ?_ ?_ ?_) | exact rfl))
  any_goals (exfalso; revert hb; simp; done)
  have hub : ∀ i, i < G.n → 0 ≤ S (uc (G.u i) fun τ => (h τ).testBit i) nd ∧ S (uc (G.u i) fun τ => (h τ).testBit i) nd ≤ 8000000 := fun i hi => by
    have := uc_b (hG.v i hi) (fun τ => (h τ).testBit i) nd
    omega
  have hcb : ∀ i, i < G.n → ∀ t, -1200000000000 ≤ cC G.u (G.pw (bitsN (h t)) (D t)) i ∧ cC G.u (G.pw (bitsN (h t)) (D t)) i ≤ 1200000000000 := fun i hi t => by
    have := C_le (cuE_all (hG.v i hi)).2.2.2.1 (G.pw (bitsN (h t)) (D t) i) (Nat.le_refl _)
    unfold cC
    have hm := (cuE_all (hG.v i hi)).2.2.2.1.1
    omega
  have hCb : ∀ i, i < G.n → ∀ t, t ≤ nd → -9600000000000 ≤ S (fun τ => cC G.u (G.pw (bitsN (h τ)) (D τ)) i) t ∧ S (fun τ => cC G.u (G.pw (bitsN (h τ)) (D τ)) i) t ≤ 9600000000000 := fun i hi t ht => by
    have := S_le (p := fun τ => cC G.u (G.pw (bitsN (h τ)) (D τ)) i) (a := -1200000000000) (b := 1200000000000) (k := t) fun j _ => hcb i hi j
    omega
  obtain ⟨Q, hQ⟩ : ∃ Q : Nat → Int, Q = fun k => S (uc (G.u k) fun τ => (h τ).testBit k) nd + S (fun τ => cC G.u (G.pw (bitsN (h τ)) (D τ)) k) nd := ⟨_, rfl⟩
  have hQb : ∀ i, i < G.n → -9600000000000 ≤ Q i ∧ Q i ≤ 9700000000000 := fun i hi => by
    have h1 := hub i hi
    have h2 := hCb i hi nd (Nat.le_refl _)
    rw [hQ]
    dsimp only
    omega
  obtain ⟨W, hW⟩ : ∃ W : Nat → Nat → Int, W = fun τ k => G.pw (bitsN (h τ)) (D τ) k := ⟨_, rfl⟩
  have hWb : ∀ τ, τ < nd → ∀ k, k < G.n → 0 ≤ W τ k ∧ W τ k ≤ 100000 := fun τ hτ k hk => by
    have h1 := pw_mx hG hf hk hτ
    have h2 := (cuE_all (hG.v k hk)).2.1
    unfold okR at h2
    rw [hW]
    dsimp only
    omega
  have e9 : (0 : Int) = S Q 0 := rfl
  refine sem_loop tab_ok gamD2_ok mixed (by kernel_rfl) (O := lex) (fun i : Nat => ⟨[(2, .c (.sl 1 G.n fun k _ => .sl 1 nd (c1 fun t => G.sP (bitsN (h t)) (D t) k))), (4, .lp 0 0), (9, intV (S Q i)), (10, .own 1), (39, .c (.sl 13 G.n (cCu G.u))), (40, intV G.n), (41, intV i)], [.box [.c (.sl 1 nd (c1 D))], .row 3 1 nd false (c1 fun τ => S (W τ) i)]⟩) (fun i => i ≤ G.n) (fun i => G.n - i) ⟨0, [?_, ?_], Nat.zero_le _, ?_⟩ fun i hi => ?_
  rotate_left 2
  · refine Sub.of ?_ ?_ ?_
    repeat' (first | (refine And.intro ?_ ?_) | exact trivial | exact fun _ _ _ => hsc _ _ | (exact congrArg intV (by first | with_reducible rfl | with_reducible assumption)) | exact (rfl : AV.idsLt _ _ = true) | exact (rfl : _ = AV.ren _ (.own _)) | exact (rfl : _ = AV.ren _ (.fn _ _)) | exact (rfl : _ = AV.ren _ (.gh _)) | (exact congrArg intV (by assumption)) | (refine congrArg intV ((wr_id (by omega) (by omega)).trans (by omega))) | exact rfl | (simp only [Int.toNat_natCast, Int.toNat_zero, Nat.sub_zero, Nat.zero_add]; first | exact rfl | done) | exact all0 | exact fun h => Bool.noConfusion h | exact fun _ _ _ _ => rfl | omega)
    · intro a ha b hb1
      have hb1 : b < 1 := hb1
      obtain rfl : b = 0 := by omega
      rfl
  have hSQ := S_le (p := Q) (a := -9600000000000) (b := 9700000000000) (k := i) fun j hj => hQb j (by omega)
  by_cases hin : i < G.n
  · have hui := hub i hin
    have hvi := hG.v i hin
    conv => whnf
    repeat' (first
      | (refine NilG.mk fun bn hbn hbx => ?_; conv => whnf)
      | (refine Both.mk ?_ ?_ <;> conv => whnf)
      | ((first | (refine MkG.box 1 rfl rfl rfl (by decide) ?_) | (refine MkG.box 2 rfl rfl rfl (by decide) ?_) | (refine MkG.box 3 rfl rfl rfl (by decide) ?_) | (refine MkG.row ?_)); conv => whnf)
      | exact trivial
      | (refine Br.mk (fun hb => ?_) (fun hb => ?_) <;> (first | (exfalso; revert hb; decide) | ((try simp only [BL] at hb) <;> (try simp only [DL] at hb) <;> (first | (exfalso; omega) | (conv => whnf)))))
      | (refine And.intro ?_ ?_; (focus (first | exact id | exact rfl | exact trivial | (intro hg; first | exact hg | exact rfl | (simp; done) | (simp at hg ⊢; assumption)) | omega | decide | exact is2_c _ _ _ | exact is1_c _ _ | exact isS_c _ _ | exact isB_c _ _ | exact Nat.le_refl _ | assumption | exact mulLe (by decide) (by omega) | exact mulLe2 (by decide) (by omega) (by omega) | (intros; simp only [BL] at *; omega) | (intros; (try simp only [BL] at *); (try simp only [DL] at *); omega) | (intros; simp only [BL] at *; rw [wr_id (by omega) (by omega)]; omega) | (intro h1 h2; exact Bool.and_eq_true_iff.2 ⟨h1, h2⟩) | first | exact ⟨rfl, by omega, by decide⟩ | exact fun _ => ⟨rfl, by omega, by decide⟩ | (intros; simp_all; done))); conv => whnf)
      | (refine Or.inr (And.intro rfl ?_); first | (refine congrArg intV ?_) | (refine congrArg boolV ?_) | (refine tupII ?_ ?_) | (refine tupIII ?_ ?_ ?_) | (refine tupU ?_ ?_ ?_ ?_ ?_) | exact rfl))
    refine CallG.mk (Fn.mono (runT G hG h8 hf hin) ?_)
    rintro obs r ⟨rfl, rfl⟩
    conv => whnf
    repeat' (first
      | (refine NilG.mk fun bn hbn hbx => ?_; conv => whnf)
      | (refine Both.mk ?_ ?_ <;> conv => whnf)
      | ((first | (refine MkG.box 1 rfl rfl rfl (by decide) ?_) | (refine MkG.box 2 rfl rfl rfl (by decide) ?_) | (refine MkG.box 3 rfl rfl rfl (by decide) ?_) | (refine MkG.row ?_)); conv => whnf)
      | exact trivial
      | (refine Br.mk (fun hb => ?_) (fun hb => ?_) <;> (first | (exfalso; revert hb; decide) | ((try simp only [BL] at hb) <;> (try simp only [DL] at hb) <;> (first | (exfalso; omega) | (conv => whnf)))))
      | (refine And.intro ?_ ?_; (focus (first | exact id | exact rfl | exact trivial | (intro hg; first | exact hg | exact rfl | (simp; done) | (simp at hg ⊢; assumption)) | omega | decide | exact is2_c _ _ _ | exact is1_c _ _ | exact isS_c _ _ | exact isB_c _ _ | exact Nat.le_refl _ | assumption | exact mulLe (by decide) (by omega) | exact mulLe2 (by decide) (by omega) (by omega) | (intros; simp only [BL] at *; omega) | (intros; (try simp only [BL] at *); (try simp only [DL] at *); omega) | (intros; simp only [BL] at *; rw [wr_id (by omega) (by omega)]; omega) | (intro h1 h2; exact Bool.and_eq_true_iff.2 ⟨h1, h2⟩) | first | exact ⟨rfl, by omega, by decide⟩ | exact fun _ => ⟨rfl, by omega, by decide⟩ | (intros; simp_all; done))); conv => whnf)
      | (refine Or.inr (And.intro rfl ?_); first | (refine congrArg intV ?_) | (refine congrArg boolV ?_) | (refine tupII ?_ ?_) | (refine tupIII ?_ ?_ ?_) | (refine tupU ?_ ?_ ?_ ?_ ?_) | exact rfl))
    have e9b : IntKind.i64.wrap (S Q i + S (uc (G.u i) fun τ => (h τ).testBit i) nd) = S Q i + S (uc (G.u i) fun τ => (h τ).testBit i) nd + S (fun τ => cC G.u (G.pw (bitsN (h τ)) (D τ)) i) 0 := (wr_id (by omega) (by omega)).trans (Int.add_zero _).symm
    refine sem_loop tab_ok gamD2_ok mixed (by kernel_rfl) (O := lex) (fun t : Nat => ⟨[(2, .c (.sl 1 G.n fun k _ => .sl 1 nd (c1 fun t => G.sP (bitsN (h t)) (D t) k))), (4, .lp 0 0), (9, intV (S Q i + S (uc (G.u i) fun τ => (h τ).testBit i) nd + S (fun τ => cC G.u (G.pw (bitsN (h τ)) (D τ)) i) t)), (10, .own 1), (12, .lp 2 0), (39, .c (.sl 13 G.n (cCu G.u))), (40, intV G.n), (41, intV i), (68, .c (.sl 1 nd (c1 fun t => G.sP (bitsN (h t)) (D t) i))), (69, intV nd), (70, intV t)], [.box [.c (.sl 1 nd (c1 D))], .row 3 1 nd false (c1 fun τ => S (W τ) i + if τ < t then W τ i else 0), .box [strV (G.u i).r.nm, intV (G.u i).r.le, intV (G.u i).r.mo, intV (G.u i).r.up, intV (G.u i).r.dn, intV (G.u i).r.mi, intV (G.u i).r.mf, intV (G.u i).r.st, strV (G.u i).s, .c (.sl 2 (G.u i).m (c2 (G.u i).p (G.u i).q)), boolV (G.u i).on, intV (G.u i).si, intV (G.u i).po]]⟩) (fun t => t ≤ nd) (fun t => nd - t) ⟨0, [?_, ?_, ?_], Nat.zero_le _, ?_⟩ fun t ht => ?_
    rotate_left 3
    · refine Sub.of ?_ ?_ ?_
      repeat' (first | (refine And.intro ?_ ?_) | exact trivial | exact fun _ _ _ => hsc _ _ | (exact congrArg intV (by first | with_reducible rfl | with_reducible assumption)) | exact (rfl : AV.idsLt _ _ = true) | exact (rfl : _ = AV.ren _ (.own _)) | exact (rfl : _ = AV.ren _ (.fn _ _)) | exact (rfl : _ = AV.ren _ (.gh _)) | (exact congrArg intV (by assumption)) | (refine congrArg intV ((wr_id (by omega) (by omega)).trans (by omega))) | exact rfl | (simp only [Int.toNat_natCast, Int.toNat_zero, Nat.sub_zero, Nat.zero_add]; first | exact rfl | done) | exact all0 | exact fun h => Bool.noConfusion h | exact fun _ _ _ _ => rfl | omega)
      · intro a ha b hb1
        have hb1 : b < 1 := hb1
        obtain rfl : b = 0 := by omega
        refine congrArg iL ?_
        show S (W a) i = S (W a) i + if a < 0 then W a i else 0
        rw [if_neg (Nat.not_lt_zero a), Int.add_zero]
    have hCt := hCb i hin t ht
    by_cases htn : t < nd
    · have em := pw_mx hG hf hin htn
      have hct := hcb i hin t
      have hWt := hWb t htn i hin
      have hW0 := S_le (p := W t) (a := 0) (b := 100000) (k := i) fun j hj => hWb t htn j (by omega)
      have eW : G.pw (bitsN (h t)) (D t) i = W t i := by rw [hW]
      obtain ⟨v0, v1, v2, v3, v4, v5, v6, v7⟩ := cuE_all hvi
      have hox : offXE (G.u i).s (G.u i).m (G.u i).p (G.u i).q (max 0 (G.sP (bitsN (h t)) (D t) i)) = 0 := by
        unfold offXE
        rw [if_neg (fun hh => hh v2), if_neg (by rw [em.1, v4]; omega)]
      have ecs : (if offXE (G.u i).s (G.u i).m (G.u i).p (G.u i).q (max 0 (G.sP (bitsN (h t)) (D t) i)) = 0 then S (ct (G.u i).p (G.u i).q (max 0 (G.sP (bitsN (h t)) (D t) i))) (G.u i).m else 0) = cC G.u (G.pw (bitsN (h t)) (D t)) i := by
        rw [if_pos hox, em.1]
        rfl
      have e9c : IntKind.i64.wrap (S Q i + S (uc (G.u i) fun τ => (h τ).testBit i) nd + S (fun τ => cC G.u (G.pw (bitsN (h τ)) (D τ)) i) t + (if offXE (G.u i).s (G.u i).m (G.u i).p (G.u i).q (max 0 (G.sP (bitsN (h t)) (D t) i)) = 0 then S (ct (G.u i).p (G.u i).q (max 0 (G.sP (bitsN (h t)) (D t) i))) (G.u i).m else 0)) = S Q i + S (uc (G.u i) fun τ => (h τ).testBit i) nd + S (fun τ => cC G.u (G.pw (bitsN (h τ)) (D τ)) i) (t + 1) := by
        have e8 : S (fun τ => cC G.u (G.pw (bitsN (h τ)) (D τ)) i) (t + 1) = S (fun τ => cC G.u (G.pw (bitsN (h τ)) (D τ)) i) t + cC G.u (G.pw (bitsN (h t)) (D t)) i := rfl
        rw [ecs, e8, wr_id (by omega) (by omega)]
        omega
      have hzi := hG.z i hin
      conv => whnf
      repeat' (first
        | (refine NilG.mk fun bn hbn hbx => ?_; conv => whnf)
        | (refine Both.mk ?_ ?_ <;> conv => whnf)
        | ((first | (refine MkG.box 1 rfl rfl rfl (by decide) ?_) | (refine MkG.box 2 rfl rfl rfl (by decide) ?_) | (refine MkG.box 3 rfl rfl rfl (by decide) ?_) | (refine MkG.row ?_)); conv => whnf)
        | exact trivial
        | (refine Br.mk (fun hb => ?_) (fun hb => ?_) <;> (first | (exfalso; revert hb; decide) | ((try simp only [BL] at hb) <;> (try simp only [DL] at hb) <;> (first | (exfalso; omega) | (conv => whnf)))))
        | (refine And.intro ?_ ?_; (focus (first | exact id | exact rfl | exact trivial | (intro hg; first | exact hg | exact rfl | (simp; done) | (simp at hg ⊢; assumption)) | omega | decide | exact is2_c _ _ _ | exact is1_c _ _ | exact isS_c _ _ | exact isB_c _ _ | exact Nat.le_refl _ | assumption | exact mulLe (by decide) (by omega) | exact mulLe2 (by decide) (by omega) (by omega) | (intros; simp only [BL] at *; omega) | (intros; (try simp only [BL] at *); (try simp only [DL] at *); omega) | (intros; simp only [BL] at *; rw [wr_id (by omega) (by omega)]; omega) | (intro h1 h2; exact Bool.and_eq_true_iff.2 ⟨h1, h2⟩) | first | exact ⟨rfl, by omega, by decide⟩ | exact ⟨is2_c _ _ _, hzi.2⟩ | exact ⟨is2_c _ _ _, hzi.2.1, hzi.2.2⟩ | (intros; simp_all; done))); conv => whnf)
        | (refine Or.inr (And.intro rfl ?_); first | (refine congrArg intV ?_) | (refine congrArg boolV ?_) | (refine tupII ?_ ?_) | (refine tupIII ?_ ?_ ?_) | (refine tupU ?_ ?_ ?_ ?_ ?_) | exact rfl))
      refine ⟨t + 1, [0, 1, 2], (by omega : t + 1 ≤ nd), by omega, ?_⟩
      refine Sub.of ?_ ?_ ?_
      repeat' (first | (refine And.intro ?_ ?_) | exact trivial | exact fun _ _ _ => hsc _ _ | (exact congrArg intV (by first | with_reducible rfl | with_reducible assumption)) | exact (rfl : AV.idsLt _ _ = true) | exact (rfl : _ = AV.ren _ (.own _)) | exact (rfl : _ = AV.ren _ (.fn _ _)) | exact (rfl : _ = AV.ren _ (.gh _)) | (exact congrArg intV (by assumption)) | (refine congrArg intV ((wr_id (by omega) (by omega)).trans (by omega))) | exact rfl | (simp only [Int.toNat_natCast, Int.toNat_zero, Nat.sub_zero, Nat.zero_add]; first | exact rfl | done) | exact all0 | exact fun h => Bool.noConfusion h | exact fun _ _ _ _ => rfl | omega)
      intro a ha b hb1
      have hb1 : b < 1 := hb1
      obtain rfl : b = 0 := by omega
      show _ = iL (S (W a) i + if a < t + 1 then W a i else 0)
      by_cases e : a = t
      · refine (if_pos e).trans ?_
        subst e
        refine congrArg iL ?_
        show IntKind.i64.wrap (S (W a) i + (if a < a then W a i else 0) + max 0 (G.sP (bitsN (h a)) (D a) i)) = _
        rw [if_neg (Nat.lt_irrefl a), em.1, eW, if_pos (Nat.lt_succ_self a), wr_id (by omega) (by omega)]
        omega
      · refine (if_neg e).trans ?_
        refine congrArg iL ?_
        show S (W a) i + (if a < t then W a i else 0) = _
        by_cases e2 : a < t
        · rw [if_pos e2, if_pos (by omega)]
        · rw [if_neg e2, if_neg (by omega)]
    have eQ : S Q i + S (uc (G.u i) fun τ => (h τ).testBit i) nd + S (fun τ => cC G.u (G.pw (bitsN (h τ)) (D τ)) i) nd = S Q (i + 1) := by
      have : S Q (i + 1) = S Q i + Q i := rfl
      rw [this, hQ]
      dsimp only
      omega
    obtain rfl : t = nd := by omega
    conv => whnf
    repeat' (first
      | (refine NilG.mk fun bn hbn hbx => ?_; conv => whnf)
      | (refine Both.mk ?_ ?_ <;> conv => whnf)
      | ((first | (refine MkG.box 1 rfl rfl rfl (by decide) ?_) | (refine MkG.box 2 rfl rfl rfl (by decide) ?_) | (refine MkG.box 3 rfl rfl rfl (by decide) ?_) | (refine MkG.row ?_)); conv => whnf)
      | exact trivial
      | (refine Br.mk (fun hb => ?_) (fun hb => ?_) <;> (first | (exfalso; revert hb; decide) | ((try simp only [BL] at hb) <;> (try simp only [DL] at hb) <;> (first | (exfalso; omega) | (conv => whnf)))))
      | (refine And.intro ?_ ?_; (focus (first | exact id | exact rfl | exact trivial | (intro hg; first | exact hg | exact rfl | (simp; done) | (simp at hg ⊢; assumption)) | omega | decide | exact is2_c _ _ _ | exact is1_c _ _ | exact isS_c _ _ | exact isB_c _ _ | exact Nat.le_refl _ | assumption | exact mulLe (by decide) (by omega) | exact mulLe2 (by decide) (by omega) (by omega) | (intros; simp only [BL] at *; omega) | (intros; (try simp only [BL] at *); (try simp only [DL] at *); omega) | (intros; simp only [BL] at *; rw [wr_id (by omega) (by omega)]; omega) | (intro h1 h2; exact Bool.and_eq_true_iff.2 ⟨h1, h2⟩) | first | exact ⟨rfl, by omega, by decide⟩ | (intros; simp_all; done))); conv => whnf)
      | (refine Or.inr (And.intro rfl ?_); first | (refine congrArg intV ?_) | (refine congrArg boolV ?_) | (refine tupII ?_ ?_) | (refine tupIII ?_ ?_ ?_) | (refine tupU ?_ ?_ ?_ ?_ ?_) | exact rfl))
    refine ⟨i + 1, [0, 1], (by omega : i + 1 ≤ G.n), by omega, ?_⟩
    refine Sub.of ?_ ?_ ?_
    repeat' (first | (refine And.intro ?_ ?_) | exact trivial | exact fun _ _ _ => hsc _ _ | (exact congrArg intV (by first | with_reducible rfl | with_reducible assumption)) | exact (rfl : AV.idsLt _ _ = true) | exact (rfl : _ = AV.ren _ (.own _)) | exact (rfl : _ = AV.ren _ (.fn _ _)) | exact (rfl : _ = AV.ren _ (.gh _)) | (exact congrArg intV (by assumption)) | (refine congrArg intV ((wr_id (by omega) (by omega)).trans (by omega))) | exact rfl | (simp only [Int.toNat_natCast, Int.toNat_zero, Nat.sub_zero, Nat.zero_add]; first | exact rfl | done) | exact all0 | exact fun h => Bool.noConfusion h | exact fun _ _ _ _ => rfl | omega)
    intro a ha b hb1
    have hb1 : b < 1 := hb1
    obtain rfl : b = 0 := by omega
    refine congrArg iL ?_
    show S (W a) i + (if a < t then W a i else 0) = S (W a) i + W a i
    rw [if_pos ha]
  obtain rfl : i = G.n := by omega
  conv => whnf
  repeat' (first
    | (refine NilG.mk fun bn hbn hbx => ?_; conv => whnf)
    | (refine Both.mk ?_ ?_ <;> conv => whnf)
    | ((first | (refine MkG.box 1 rfl rfl rfl (by decide) ?_) | (refine MkG.box 2 rfl rfl rfl (by decide) ?_) | (refine MkG.box 3 rfl rfl rfl (by decide) ?_) | (refine MkG.row ?_)); conv => whnf)
    | exact trivial
    | (refine Br.mk (fun hb => ?_) (fun hb => ?_) <;> (first | (exfalso; revert hb; decide) | ((try simp only [BL] at hb) <;> (try simp only [DL] at hb) <;> (first | (exfalso; omega) | (conv => whnf)))))
    | (refine And.intro ?_ ?_; (focus (first | exact id | exact rfl | exact trivial | (intro hg; first | exact hg | exact rfl | (simp; done) | (simp at hg ⊢; assumption)) | omega | decide | exact is2_c _ _ _ | exact is1_c _ _ | exact isS_c _ _ | exact isB_c _ _ | exact Nat.le_refl _ | assumption | exact mulLe (by decide) (by omega) | exact mulLe2 (by decide) (by omega) (by omega) | (intros; simp only [BL] at *; omega) | (intros; (try simp only [BL] at *); (try simp only [DL] at *); omega) | (intros; simp only [BL] at *; rw [wr_id (by omega) (by omega)]; omega) | (intro h1 h2; exact Bool.and_eq_true_iff.2 ⟨h1, h2⟩) | exact ⟨rfl, by omega, by decide⟩ | (intros; simp_all; done))); conv => whnf)
    | (refine Or.inr (And.intro rfl ?_); first | (refine congrArg intV ?_) | (refine congrArg boolV ?_) | (refine tupII ?_ ?_) | (refine tupIII ?_ ?_ ?_) | (refine tupU ?_ ?_ ?_ ?_ ?_) | exact rfl))
  refine CallG.mk (Fn.mono (cbEql nd (fun τ => S (W τ) G.n) D (by omega) fun τ hτ => ?_) ?_)
  · rw [hW]
    exact (G.pw_b hG (hf τ hτ).2.2).1
  rintro obs r ⟨rfl, rfl⟩
  conv => whnf
  repeat' (first
    | (refine NilG.mk fun bn hbn hbx => ?_; conv => whnf)
    | (refine Both.mk ?_ ?_ <;> conv => whnf)
    | ((first | (refine MkG.box 1 rfl rfl rfl (by decide) ?_) | (refine MkG.box 2 rfl rfl rfl (by decide) ?_) | (refine MkG.box 3 rfl rfl rfl (by decide) ?_) | (refine MkG.row ?_)); conv => whnf)
    | exact trivial
    | (refine Br.mk (fun hb => ?_) (fun hb => ?_) <;> (first | (exfalso; revert hb; decide) | ((try simp only [BL] at hb) <;> (try simp only [DL] at hb) <;> (first | (exfalso; omega) | (conv => whnf)))))
    | (refine And.intro ?_ ?_; (focus (first | exact id | exact rfl | exact trivial | (intro hg; first | exact hg | exact rfl | (simp; done) | (simp at hg ⊢; assumption)) | omega | decide | exact is2_c _ _ _ | exact is1_c _ _ | exact isS_c _ _ | exact isB_c _ _ | exact Nat.le_refl _ | assumption | exact mulLe (by decide) (by omega) | exact mulLe2 (by decide) (by omega) (by omega) | (intros; simp only [BL] at *; omega) | (intros; (try simp only [BL] at *); (try simp only [DL] at *); omega) | (intros; simp only [BL] at *; rw [wr_id (by omega) (by omega)]; omega) | (intro h1 h2; exact Bool.and_eq_true_iff.2 ⟨h1, h2⟩) | exact ⟨rfl, by omega, by decide⟩ | (intros; simp_all; done))); conv => whnf)
    | (refine Or.inr (And.intro rfl ?_); first | (refine congrArg intV ?_) | (refine congrArg boolV ?_) | (refine tupII ?_ ?_) | (refine tupIII ?_ ?_ ?_) | (refine tupU ?_ ?_ ?_ ?_ ?_) | exact rfl))
  · have es := S_swap (fun k τ => cC G.u (G.pw (bitsN (h τ)) (D τ)) k) nd G.n
    rw [csH_eq, hQ, S_plus2, es]
    rfl
  · rfl
end Go.Proofs.Ytemfikdogdadnaa
