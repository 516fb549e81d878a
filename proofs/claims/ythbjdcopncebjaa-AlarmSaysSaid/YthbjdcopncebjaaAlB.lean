/-
  Alarms: explained.
-/
import Derived.Test.YthbjdcopncebjaaAlA
namespace Go.Proofs.Ythbjdcopncebjaa
open Go.RowKit

/-- an own row in a slot is looked at as a view of the whole row -/
def ovUp (S : AS) (t i sz n : Nat) : AS := ⟨(t, .ov i sz 0 n) :: S.fr, S.obs⟩
theorem Rel.ovUp {w0 : Env} {w : World} {I0 I : Nat → Prop} {S : AS} {σ : Asg} {tm : Array Value} (h : Rel w0 I0 S σ I tm w) {t i e sz n : Nat} {sc : Bool} {f : Nat → Nat → L} (ht : fget S.fr t = .own i) (ho : S.obs[i]? = some (.row e sz n sc f)) : Rel w0 I0 (ovUp S t i sz n) σ I tm w := by
  refine ⟨h.same0, h.st, fun t' => ?_, h.i1, h.i2, h.sz⟩
  have hf := h.fr t
  simp only [Go.Proofs.Ythbjdcopncebjaa.ovUp, fget]
  by_cases hh : t = t'
  · subst hh
    rw [if_pos rfl]
    rw [ht] at hf
    simp only [Den] at hf
    have hr : RowRel σ I w i e sz n f := (h.st.obj i _ ho).1
    obtain ⟨A, cap, q1, q2, q3⟩ := hr.len
    rw [hf.2.1]
    refine ⟨hf.1, A, cap, q1, q2, q3, fun hn => ?_⟩
    obtain ⟨g, rfl⟩ := hr.room q1 hn
    exact ⟨g, n, cap, q1, by rw [Nat.zero_mul], by omega, by omega⟩
  · rw [if_neg hh]; exact h.fr t'
theorem LoopG.ov {P : Program} {N : Nat} {c : Code} {S : AS} {K : Ex → AS → Prop} (t i : Nat) {e sz n : Nat} {sc : Bool} {f : Nat → Nat → L} (ht : fget S.fr t = .own i) (ho : S.obs[i]? = some (.row e sz n sc f)) (h : LoopG P N c (ovUp S t i sz n) K) : LoopG P N c S K :=
  ⟨fun w0 I0 σ I a w hd hN hr => h.sem w0 I0 _ I a w hd hN (hr.ovUp ht ho)⟩
def lY (l : List ByteArray) (k : Nat) : ByteArray := (l[k]?).getD ByteArray.empty
abbrev rY (l : List ByteArray) : OB := .row 9 1 l.length false (cS (lY l))
theorem apY {l : List ByteArray} {v : ByteArray} : ∀ a, a < l.length + 1 → ∀ b, b < 1 → (if a < l.length then cS (lY l) a b else (([sL v] : List L)[(a - l.length) * 1 + b]?).getD (.v undef)) = cS (lY (l ++ [v])) a b := fun a ha b hb => by
  obtain rfl : b = 0 := by omega
  by_cases h : a < l.length
  · rw [if_pos h]
    show L.v (.string (lY l a)) = .v (.string (lY (l ++ [v]) a))
    unfold lY
    rw [List.getElem?_append_left h]
  · obtain rfl : a = l.length := by omega
    rw [if_neg h, Nat.sub_self]
    show L.v (.string v) = .v (.string (lY (l ++ [v]) l.length))
    unfold lY
    simp
theorem hasY {l : List ByteArray} {x : ByteArray} : hasB (lY l) l.length x = true ↔ x ∈ l := by
  rw [has_iff]
  constructor
  · rintro ⟨j, h1, h2⟩
    rw [← h2]
    unfold lY
    rw [List.getElem?_eq_getElem h1]
    exact List.getElem_mem h1
  · intro h
    obtain ⟨j, hj, e⟩ := List.getElem_of_mem h
    exact ⟨j, hj, by unfold lY; rw [List.getElem?_eq_getElem hj]; exact e⟩
theorem drop_lY {l : List ByteArray} {k : Nat} (h : k < l.length) : l.drop k = lY l k :: l.drop (k + 1) := by
  rw [List.drop_eq_getElem_cons h]
  unfold lY
  rw [List.getElem?_eq_getElem h]
  rfl
theorem ovY {R : List ByteArray} {lo : Nat} {v : ByteArray} : ∀ a, a < R.length - lo + 1 → ∀ b, b < 1 → (if a < R.length - lo then cS (lY R) (lo + a) b else (([sL v] : List L)[(a - (R.length - lo)) * 1 + b]?).getD (.v undef)) = cS (lY (R.drop lo ++ [v])) a b := fun a ha b hb => by
  obtain rfl : b = 0 := by omega
  by_cases h : a < R.length - lo
  · rw [if_pos h]
    show L.v (.string (lY R (lo + a))) = .v (.string (lY (R.drop lo ++ [v]) a))
    unfold lY
    rw [List.getElem?_append_left (by rw [List.length_drop]; exact h), List.getElem?_drop]
  · obtain rfl : a = R.length - lo := by omega
    rw [if_neg h, Nat.sub_self]
    show L.v (.string v) = .v (.string (lY (R.drop lo ++ [v]) (R.length - lo)))
    unfold lY
    rw [List.getElem?_append_right (by rw [List.length_drop]; exact Nat.le_refl _), List.length_drop, Nat.sub_self]
    rfl
/-- what explained answers -/
def xpK (C : Css) (l : Nat → ByteArray) (n : Nat) (a : ByteArray) (obs : List OB) (r : AV) : Prop := obs = [] ∧ ∃ out : List ByteArray, (∀ b, b ∈ out ↔ pth C l n n a b) ∧ (∀ b, b ∈ out → hasB l n b = true) ∧ out.length ≤ n ∧ r = .c (.sl 1 out.length (cS (lY out)))
theorem alXpl (C : Css) (n : Nat) (l : Nat → ByteArray) (a : ByteArray) (hm : C.m ≤ 40) (hn : n ≤ 24) : Fn Try.prog 81 [.c (.sl 2 C.m (cCs C)), .c (.sl 1 n (cS l)), strV a] (xpK C l n a) := by
  refine fn_of_wpx (O := lex) tab_ok gamAb_ok mixed Try.func81 (by kernel_rfl) rfl rfl rfl (by simp [Try.ntmps81]) (by kernel_rfl) ?_
  conv => whnf
  repeat' (first
    | (refine NilG.mk fun bn hbn hbx => ?_; conv => whnf)
    | (refine Both.mk ?_ ?_ <;> conv => whnf)
    | exact trivial
    | (refine Br.mk (fun hb => ?_) (fun hb => ?_) <;> (first | (exfalso; revert hb; decide) | ((try simp only [BL] at hb) <;> (try simp only [DL] at hb) <;> (first | (exfalso; omega) | (conv => whnf)))))
    | (refine And.intro ?_ ?_; (focus (first | exact id | exact rfl | exact trivial | (intro hg; first | exact hg | exact rfl | (simp; done) | (simp at hg ⊢; assumption)) | omega | decide | exact is2_c _ _ _ | exact is1_c _ _ | exact isS_c _ _ | exact isB_c _ _ | exact Nat.le_refl _ | assumption | exact mulLe (by decide) (by omega) | exact mulLe2 (by decide) (by omega) (by omega) | (intros; simp only [BL] at *; omega) | (intros; (try simp only [BL] at *); (try simp only [DL] at *); omega) | (intros; simp only [BL] at *; rw [wr_id (by omega) (by omega)]; omega) | (intro h1 h2; exact Bool.and_eq_true_iff.2 ⟨h1, h2⟩) | (intros; simp_all; done))); conv => whnf)
    | (refine Or.inr (And.intro rfl ?_); first | (refine congrArg intV ?_) | (refine congrArg boolV ?_) | (refine tupII ?_ ?_) | (refine tupIII ?_ ?_ ?_) | (refine tupU ?_ ?_ ?_ ?_ ?_) | exact rfl))
  refine LoopG.nil 7 9 1 rfl ?_
  refine LoopG.ov 8 0 rfl rfl ?_
  refine sem_loop tab_ok gamAb_ok mixed (by kernel_rfl) (O := lex) (fun y : List ByteArray × List ByteArray × Nat => ⟨[(0, .c (.sl 2 C.m (cCs C))), (1, .c (.sl 1 n (cS l))), (7, .own 0), (8, .ov 1 1 y.2.2 (y.2.1.length - y.2.2))], [rY y.1, rY y.2.1]⟩) (fun y => y.2.2 ≤ y.2.1.length ∧ y.2.1.length ≤ y.1.length + 1 ∧ Bfs C l n a y.1 (y.2.1.drop y.2.2)) (fun y => 2 * frN l y.1 n + (y.2.1.length - y.2.2)) ⟨([], [a], 0), [1, 0], ⟨Nat.zero_le _, Nat.le_refl _, Bfs.start a⟩, ?_⟩ fun y hy => ?_
  · refine Sub.of ?_ ?_ ?_
    repeat' (first | (refine And.intro ?_ ?_) | exact trivial | exact fun _ _ _ => hsc _ _ | (exact congrArg intV (by first | with_reducible rfl | with_reducible assumption)) | exact (rfl : AV.idsLt _ _ = true) | exact (rfl : _ = AV.ren _ (.own _)) | exact (rfl : _ = AV.ren _ (.fn _ _)) | exact (rfl : _ = AV.ren _ (.gh _)) | (exact congrArg intV (by assumption)) | (refine congrArg intV ((wr_id (by omega) (by omega)).trans (by omega))) | exact rfl | (simp only [Int.toNat_natCast, Int.toNat_zero, Nat.sub_zero, Nat.zero_add]; first | exact rfl | done) | exact all0 | exact fun h => Bool.noConfusion h | exact fun _ _ _ _ => rfl | omega)
    · exact fun k hk j hj => (match k, j, hk, hj with | 0, 0, _, _ => rfl)
  obtain ⟨out, R, lo⟩ := y
  obtain ⟨hlo, hR, hB⟩ := hy
  dsimp only at hlo hR hB ⊢
  have hcnt := hB.cnt
  conv => whnf
  repeat' (first
    | (refine NilG.mk fun bn hbn hbx => ?_; conv => whnf)
    | (refine Both.mk ?_ ?_ <;> conv => whnf)
    | exact trivial
    | (refine Br.mk (fun hb => ?_) (fun hb => ?_) <;> (first | (exfalso; revert hb; decide) | ((try simp only [BL] at hb) <;> (try simp only [DL] at hb) <;> (first | (exfalso; omega) | (conv => whnf)))))
    | (refine And.intro ?_ ?_; (focus (first | exact id | exact rfl | exact trivial | (intro hg; first | exact hg | exact rfl | (simp; done) | (simp at hg ⊢; assumption)) | omega | decide | exact is2_c _ _ _ | exact is1_c _ _ | exact isS_c _ _ | exact isB_c _ _ | exact Nat.le_refl _ | assumption | exact mulLe (by decide) (by omega) | exact mulLe2 (by decide) (by omega) (by omega) | (intros; simp only [BL] at *; omega) | (intros; (try simp only [BL] at *); (try simp only [DL] at *); omega) | (intros; simp only [BL] at *; rw [wr_id (by omega) (by omega)]; omega) | (intro h1 h2; exact Bool.and_eq_true_iff.2 ⟨h1, h2⟩) | exact ⟨rfl, by omega, by decide⟩ | (intros; simp_all; done))); conv => whnf)
    | (refine Or.inr (And.intro rfl ?_); first | (refine congrArg intV ?_) | (refine congrArg boolV ?_) | (refine tupII ?_ ?_) | (refine tupIII ?_ ?_ ?_) | (refine tupU ?_ ?_ ?_ ?_ ?_) | exact rfl))
  · have hlt : lo < R.length := by omega
    have hB := hB
    rw [drop_lY hlt] at hB
    have hK := hB.pop
    refine sem_loop tab_ok gamAb_ok mixed (by kernel_rfl) (O := lex) (fun z : List ByteArray × List ByteArray × Nat × Nat => ⟨[(0, .c (.sl 2 C.m (cCs C))), (1, .c (.sl 1 n (cS l))), (7, .own 0), (8, .ov 1 1 z.2.2.1 (z.2.1.length - z.2.2.1)), (9, strV (lY R lo)), (22, .c (.sl 2 C.m (cCs C))), (23, intV C.m), (24, intV z.2.2.2)], [rY z.1, rY z.2.1]⟩) (fun z => z.2.2.1 ≤ z.2.1.length ∧ z.2.1.length ≤ z.1.length + 1 ∧ z.2.2.2 ≤ C.m ∧ Bfk C l n a (lY R lo) z.2.2.2 z.1 (z.2.1.drop z.2.2.1) ∧ 2 * frN l z.1 n + (z.2.1.length - z.2.2.1) < 2 * frN l out n + (R.length - lo)) (fun z => C.m - z.2.2.2) ⟨(out, R, lo + 1, 0), [?_, ?_], ⟨(by omega : lo + 1 ≤ R.length), hR, Nat.zero_le _, hK, (by omega : 2 * frN l out n + (R.length - (lo + 1)) < 2 * frN l out n + (R.length - lo))⟩, ?_⟩ fun z hz => ?_
    rotate_left 2
    · refine Sub.of ?_ ?_ ?_
      repeat' (first | (refine And.intro ?_ ?_) | exact trivial | exact fun _ _ _ => hsc _ _ | (exact congrArg intV (by first | with_reducible rfl | with_reducible assumption)) | exact (rfl : AV.idsLt _ _ = true) | exact (rfl : _ = AV.ren _ (.own _)) | exact (rfl : _ = AV.ren _ (.fn _ _)) | exact (rfl : _ = AV.ren _ (.gh _)) | (exact congrArg intV (by assumption)) | (refine congrArg intV ((wr_id (by omega) (by omega)).trans (by omega))) | exact rfl | (simp only [Int.toNat_natCast, Int.toNat_zero, Nat.sub_zero, Nat.zero_add]; first | exact rfl | done) | exact all0 | exact fun h => Bool.noConfusion h | exact fun _ _ _ _ => rfl | omega)
    obtain ⟨out', R', lo', k⟩ := z
    obtain ⟨i1, i2, i3, i4, i5⟩ := hz
    dsimp only at i1 i2 i3 i4 i5 ⊢
    have icnt := i4.cnt
    have hb16 : e9.bytes = 16 := rfl
    conv => whnf
    repeat' (first
      | (refine NilG.mk fun bn hbn hbx => ?_; conv => whnf)
      | (refine Both.mk ?_ ?_ <;> conv => whnf)
      | exact trivial
      | (refine Br.mk (fun hb => ?_) (fun hb => ?_) <;> (first | (exfalso; revert hb; decide) | ((try simp only [BL] at hb) <;> (try simp only [DL] at hb) <;> (first | (exfalso; omega) | (conv => whnf)))))
      | (refine And.intro ?_ ?_; (focus (first | exact id | exact rfl | exact trivial | (intro hg; first | exact hg | exact rfl | (simp; done) | (simp at hg ⊢; assumption)) | omega | decide | exact is2_c _ _ _ | exact is1_c _ _ | exact isS_c _ _ | exact isB_c _ _ | exact Nat.le_refl _ | assumption | exact mulLe (by decide) (by omega) | exact mulLe2 (by decide) (by omega) (by omega) | (intros; simp only [BL] at *; omega) | (intros; (try simp only [BL] at *); (try simp only [DL] at *); omega) | (intros; simp only [BL] at *; rw [wr_id (by omega) (by omega)]; omega) | (intro h1 h2; exact Bool.and_eq_true_iff.2 ⟨h1, h2⟩) | first | exact ⟨rfl, by omega, by decide⟩ | exact fun _ => ⟨isS_c _ _, by unfold maxLen; omega⟩ | (rw [hb16]; omega) | (intros; simp_all; done))); conv => whnf)
      | (refine Or.inr (And.intro rfl ?_); first | (refine congrArg intV ?_) | (refine congrArg boolV ?_) | (refine tupII ?_ ?_) | (refine tupIII ?_ ?_ ?_) | (refine tupU ?_ ?_ ?_ ?_ ?_) | exact rfl))
    · have hb1 := hb
      have e24 : IntKind.i64.wrap ((k : Int) + 1) = ((k + 1 : Nat) : Int) := (wr_id (by omega) (by omega)).trans (by omega)
      have he : edg C l n (lY R lo) k := ⟨by omega, b_eq.1 hb1.1.1, hb1.1.2⟩
      have hno : ¬ C.by_ k ∈ out' := fun h => by
        have h1 := hasY.2 h
        rw [show hasB (lY out') out'.length (C.by_ k) = false from hb1.2] at h1
        cases h1
      obtain ⟨j9, q1, q2⟩ := has_iff.1 he.2.2
      have hf := frN_app hno q1 q2
      have hadd := i4.add he hno
      obtain ⟨R2, hR2⟩ : ∃ R2, R2 = R'.drop lo' ++ [C.by_ k] := ⟨_, rfl⟩
      obtain ⟨o2, ho2⟩ : ∃ o2, o2 = out' ++ [C.by_ k] := ⟨_, rfl⟩
      have el : R2.length = R'.length - lo' + 1 := by rw [hR2]; simp
      have eo : o2.length = out'.length + 1 := by rw [ho2]; simp
      rw [← hR2, ← ho2] at hadd
      rw [← ho2] at hf
      have hinv : 0 ≤ R2.length ∧ R2.length ≤ o2.length + 1 ∧ k + 1 ≤ C.m ∧ Bfk C l n a (lY R lo) (k + 1) o2 (R2.drop 0) ∧ 2 * frN l o2 n + (R2.length - 0) < 2 * frN l out n + (R.length - lo) := ⟨Nat.zero_le _, by omega, by omega, hadd, by omega⟩
      have e8 : AV.ov 6 1 0 (R'.length - lo' + 1) = AV.ov 6 1 0 (R2.length - 0) := by rw [el]; rfl
      refine ⟨(o2, R2, 0, k + 1), [4, 6], hinv, (by omega : C.m - (k + 1) < C.m - k), ?_⟩
      refine Sub.of ?_ ?_ ?_
      repeat' (first | (refine And.intro ?_ ?_) | exact trivial | exact fun _ _ _ => hsc _ _ | (exact congrArg intV (by first | with_reducible rfl | with_reducible assumption)) | exact (rfl : AV.idsLt _ _ = true) | exact (rfl : _ = AV.ren _ (.own _)) | exact (rfl : _ = AV.ren _ (.fn _ _)) | exact (rfl : _ = AV.ren _ (.gh _)) | (exact congrArg intV (by assumption)) | (refine congrArg intV ((wr_id (by omega) (by omega)).trans (by omega))) | exact rfl | (simp only [Int.toNat_natCast, Int.toNat_zero, Nat.sub_zero, Nat.zero_add]; first | exact rfl | done) | exact all0 | exact fun h => Bool.noConfusion h | exact fun _ _ _ _ => rfl | omega)
      · exact e8
      · exact eo.symm
      · rw [ho2]; exact apY
      · exact el.symm
      · rw [hR2]; exact ovY
    · have hb1 := hb
      have e24 : IntKind.i64.wrap ((k : Int) + 1) = ((k + 1 : Nat) : Int) := (wr_id (by omega) (by omega)).trans (by omega)
      have he : edg C l n (lY R lo) k := ⟨by omega, b_eq.1 hb1.1.1, hb1.1.2⟩
      have hno : ¬ C.by_ k ∈ out' := fun h => by
        have h1 := hasY.2 h
        rw [show hasB (lY out') out'.length (C.by_ k) = false from hb1.2] at h1
        cases h1
      obtain ⟨j9, q1, q2⟩ := has_iff.1 he.2.2
      have hf := frN_app hno q1 q2
      have hadd := i4.add he hno
      obtain ⟨R2, hR2⟩ : ∃ R2, R2 = R' ++ [C.by_ k] := ⟨_, rfl⟩
      obtain ⟨o2, ho2⟩ : ∃ o2, o2 = out' ++ [C.by_ k] := ⟨_, rfl⟩
      have el : R2.length = R'.length + 1 := by rw [hR2]; simp
      have eo : o2.length = out'.length + 1 := by rw [ho2]; simp
      have ed : R'.drop lo' ++ [C.by_ k] = R2.drop lo' := by rw [hR2, List.drop_append_of_le_length i1]
      rw [ed, ← ho2] at hadd
      rw [← ho2] at hf
      have hinv : lo' ≤ R2.length ∧ R2.length ≤ o2.length + 1 ∧ k + 1 ≤ C.m ∧ Bfk C l n a (lY R lo) (k + 1) o2 (R2.drop lo') ∧ 2 * frN l o2 n + (R2.length - lo') < 2 * frN l out n + (R.length - lo) := ⟨by omega, by omega, by omega, hadd, by omega⟩
      have e8 : AV.ov 6 1 lo' (R'.length - lo' + 1) = AV.ov 6 1 lo' (R2.length - lo') := by rw [el, show R'.length - lo' + 1 = R'.length + 1 - lo' by omega]
      refine ⟨(o2, R2, lo', k + 1), [4, 6], hinv, (by omega : C.m - (k + 1) < C.m - k), ?_⟩
      refine Sub.of ?_ ?_ ?_
      repeat' (first | (refine And.intro ?_ ?_) | exact trivial | exact fun _ _ _ => hsc _ _ | (exact congrArg intV (by first | with_reducible rfl | with_reducible assumption)) | exact (rfl : AV.idsLt _ _ = true) | exact (rfl : _ = AV.ren _ (.own _)) | exact (rfl : _ = AV.ren _ (.fn _ _)) | exact (rfl : _ = AV.ren _ (.gh _)) | (exact congrArg intV (by assumption)) | (refine congrArg intV ((wr_id (by omega) (by omega)).trans (by omega))) | exact rfl | (simp only [Int.toNat_natCast, Int.toNat_zero, Nat.sub_zero, Nat.zero_add]; first | exact rfl | done) | exact all0 | exact fun h => Bool.noConfusion h | exact fun _ _ _ _ => rfl | omega)
      · exact e8
      · exact eo.symm
      · rw [ho2]; exact apY
      · exact el.symm
      · rw [hR2]; exact apY
    · have e24 : IntKind.i64.wrap ((k : Int) + 1) = ((k + 1 : Nat) : Int) := (wr_id (by omega) (by omega)).trans (by omega)
      have hsk : edg C l n (lY R lo) k → C.by_ k ∈ out' := fun he => by
        rcases hb with (h | h) | h
        · exact absurd he.2.1 (b_ne.1 h)
        · have h2 := he.2.2
          rw [h] at h2; cases h2
        · exact hasY.1 h
      have hinv : lo' ≤ R'.length ∧ R'.length ≤ out'.length + 1 ∧ k + 1 ≤ C.m ∧ Bfk C l n a (lY R lo) (k + 1) out' (R'.drop lo') ∧ 2 * frN l out' n + (R'.length - lo') < 2 * frN l out n + (R.length - lo) := ⟨i1, i2, by omega, i4.skip hsk, i5⟩
      refine ⟨(out', R', lo', k + 1), [0, 1], hinv, (by omega : C.m - (k + 1) < C.m - k), ?_⟩
      refine Sub.of ?_ ?_ ?_
      repeat' (first | (refine And.intro ?_ ?_) | exact trivial | exact fun _ _ _ => hsc _ _ | (exact congrArg intV (by first | with_reducible rfl | with_reducible assumption)) | exact (rfl : AV.idsLt _ _ = true) | exact (rfl : _ = AV.ren _ (.own _)) | exact (rfl : _ = AV.ren _ (.fn _ _)) | exact (rfl : _ = AV.ren _ (.gh _)) | (exact congrArg intV (by assumption)) | (refine congrArg intV ((wr_id (by omega) (by omega)).trans (by omega))) | exact rfl | (simp only [Int.toNat_natCast, Int.toNat_zero, Nat.sub_zero, Nat.zero_add]; first | exact rfl | done) | exact all0 | exact fun h => Bool.noConfusion h | exact fun _ _ _ _ => rfl | omega)
    · obtain rfl : k = C.m := by omega
      have hinv : lo' ≤ R'.length ∧ R'.length ≤ out'.length + 1 ∧ Bfs C l n a out' (R'.drop lo') := ⟨i1, i2, i4.done⟩
      refine ⟨(out', R', lo'), [0, 1], hinv, i5, ?_⟩
      refine Sub.of ?_ ?_ ?_
      repeat' (first | (refine And.intro ?_ ?_) | exact trivial | exact fun _ _ _ => hsc _ _ | (exact congrArg intV (by first | with_reducible rfl | with_reducible assumption)) | exact (rfl : AV.idsLt _ _ = true) | exact (rfl : _ = AV.ren _ (.own _)) | exact (rfl : _ = AV.ren _ (.fn _ _)) | exact (rfl : _ = AV.ren _ (.gh _)) | (exact congrArg intV (by assumption)) | (refine congrArg intV ((wr_id (by omega) (by omega)).trans (by omega))) | exact rfl | (simp only [Int.toNat_natCast, Int.toNat_zero, Nat.sub_zero, Nat.zero_add]; first | exact rfl | done) | exact all0 | exact fun h => Bool.noConfusion h | exact fun _ _ _ _ => rfl | omega)
  · have hd0 : R.drop lo = [] := List.drop_eq_nil_of_le (by omega)
    rw [hd0] at hB
    exact .inr ⟨rfl, out, hB.fin, hB.inl, by omega, rfl⟩
end Go.Proofs.Ythbjdcopncebjaa
