/-
  Alarms: lists of names in order; causesOf, Causes, Explain.
-/
import Derived.Test.YthbjdcopncebjaaAlD
namespace Go.Proofs.Ythbjdcopncebjaa
open Go.RowKit

abbrev lsN (q : Nat → ByteArray) (m : Nat) : List ByteArray := (List.range m).map q
theorem lY_lsN {q : Nat → ByteArray} {m k : Nat} (h : k < m) : lY (lsN q m) k = q k := by
  unfold lY lsN
  rw [List.getElem?_map, List.getElem?_range h]
  rfl
theorem mem_lsN {q : Nat → ByteArray} {m : Nat} {x : ByteArray} : x ∈ lsN q m ↔ ∃ j, j < m ∧ q j = x := by
  unfold lsN
  rw [List.mem_map]
  exact ⟨fun ⟨j, h1, h2⟩ => ⟨j, List.mem_range.1 h1, h2⟩, fun ⟨j, h1, h2⟩ => ⟨j, List.mem_range.2 h1, h2⟩⟩
theorem ls_succ (q : Nat → ByteArray) (m : Nat) : lsN q (m + 1) = lsN q m ++ [q m] := by
  unfold lsN
  rw [List.range_succ, List.map_append]
  rfl
theorem mem_lY {l : List ByteArray} {x : ByteArray} : (∃ j, j < l.length ∧ lY l j = x) ↔ x ∈ l := by rw [← hasY, has_iff]
def stL (l : List ByteArray) : Prop := l.Pairwise fun a b => bl a b = true
theorem stL_lY {l : List ByteArray} : srtN (lY l) l.length ↔ stL l := by
  unfold stL srtN
  rw [List.pairwise_iff_getElem]
  have e : ∀ k (h : k < l.length), lY l k = l[k] := fun k h => by unfold lY; rw [List.getElem?_eq_getElem h]; rfl
  constructor
  · intro h a b ha hb hab
    have := h a b hab hb
    rwa [e a ha, e b hb] at this
  · intro h a b hab hb
    rw [e a (by omega), e b hb]
    exact h a b _ _ hab
theorem stL_ls {q : Nat → ByteArray} {m : Nat} (h : srtN q m) : stL (lsN q m) := by
  refine stL_lY.1 fun a b hab hb => ?_
  have hl : (lsN q m).length = m := by simp [lsN]
  rw [hl] at hb
  rw [lY_lsN (by omega), lY_lsN hb]
  exact h a b hab hb
theorem stL_uniq : ∀ {a b : List ByteArray}, stL a → stL b → (∀ x, x ∈ a ↔ x ∈ b) → a = b
  | [], [], _, _, _ => rfl
  | [], y :: _, _, _, h => absurd ((h y).2 List.mem_cons_self) List.not_mem_nil
  | x :: _, [], _, _, h => absurd ((h x).1 List.mem_cons_self) List.not_mem_nil
  | x :: a, y :: b, ha, hb, h => by
    have ha1 := List.pairwise_cons.1 ha
    have hb1 := List.pairwise_cons.1 hb
    have e : x = y := by
      rcases List.mem_cons.1 ((h x).1 List.mem_cons_self) with e | e
      · exact e
      · rcases List.mem_cons.1 ((h y).2 List.mem_cons_self) with e2 | e2
        · exact e2.symm
        · have h1 := bl_asym (hb1.1 x e)
          rw [ha1.1 y e2] at h1
          cases h1
    subst e
    refine congrArg (x :: ·) (stL_uniq ha1.2 hb1.2 fun z => ?_)
    have hz : ∀ {c : List ByteArray}, (∀ z, z ∈ c → bl x z = true) → z ∈ c → ¬ z = x := fun h1 h2 e => by
      have := h1 z h2
      rw [e, bl_irr] at this
      cases this
    constructor
    · intro hm
      exact (List.mem_cons.1 ((h z).1 (List.mem_cons_of_mem _ hm))).resolve_left (hz ha1.1 hm)
    · intro hm
      exact (List.mem_cons.1 ((h z).2 (List.mem_cons_of_mem _ hm))).resolve_left (hz hb1.1 hm)
theorem srt_uniq {p q : Nat → ByteArray} {m n : Nat} (hp : srtN p m) (hq : srtN q n) (h : ∀ x, (∃ j, j < m ∧ p j = x) ↔ ∃ j, j < n ∧ q j = x) : n = m ∧ ∀ i, i < m → p i = q i := by
  have e := stL_uniq (stL_ls hp) (stL_ls hq) fun x => mem_lsN.trans ((h x).trans mem_lsN.symm)
  have hl : n = m := by
    have := congrArg List.length e
    simpa [lsN] using this.symm
  refine ⟨hl, fun i hi => ?_⟩
  rw [← lY_lsN (q := p) hi, e, lY_lsN (by omega)]
theorem stL_nodup {l : List ByteArray} (h : stL l) : l.Nodup := h.imp fun {a b} h e => by
  rw [e, bl_irr] at h
  cases h
theorem inj_ls {q : Nat → ByteArray} {m : Nat} : injN q m ↔ (lsN q m).Nodup := by
  unfold List.Nodup
  rw [List.pairwise_iff_getElem]
  have hl : (lsN q m).length = m := by simp [lsN]
  constructor
  · intro h a b ha hb hab e
    have := h a b (by omega) (by omega) (by simpa [lsN] using e)
    omega
  · intro h a b ha hb e
    rcases Nat.lt_trichotomy a b with h1 | h1 | h1
    · exact absurd (show (lsN q m)[a]'(by omega) = (lsN q m)[b]'(by omega) by simpa [lsN] using e) (h a b (by omega) (by omega) h1)
    · exact h1
    · exact absurd (show (lsN q m)[b]'(by omega) = (lsN q m)[a]'(by omega) by simpa [lsN] using e.symm) (h b a (by omega) (by omega) h1)
theorem inj_lY {l : List ByteArray} : injN (lY l) l.length ↔ l.Nodup := by
  rw [inj_ls]
  have e : lsN (lY l) l.length = l := by
    refine List.ext_getElem (by simp [lsN]) fun k h1 h2 => ?_
    simp [lsN, lY, h2]
  rw [e]
theorem fl_succ (P : ByteArray → Bool) (q : Nat → ByteArray) (i : Nat) : (lsN q (i + 1)).filter P = (lsN q i).filter P ++ if P (q i) = true then [q i] else [] := by
  rw [ls_succ, List.filter_append]
  congr 1
  by_cases h : P (q i) = true
  · rw [if_pos h]; simp [h]
  · rw [if_neg h]; simp [h]
theorem fl_len (P : ByteArray → Bool) (q : Nat → ByteArray) (i : Nat) : ((lsN q i).filter P).length ≤ i := by
  have := List.length_filter_le P (lsN q i)
  have e : (lsN q i).length = i := by simp [lsN]
  omega
/-- what causesOf answers: the causes, in order -/
def csP (C : Css) (l : Nat → ByteArray) (n m : Nat) (q : Nat → ByteArray) : Prop := m ≤ n ∧ srtN q m ∧ ∀ x, (∃ j, j < m ∧ q j = x) ↔ ∃ k, k < n ∧ l k = x ∧ cauB C l n x = true
def csK (C : Css) (l : Nat → ByteArray) (n : Nat) (obs : List OB) (r : AV) : Prop := obs = [] ∧ ∃ m q, csP C l n m q ∧ r = .c (.sl 1 m (cS q))
noncomputable def sIcs : List AV → Sd × AV
  | [.c (.sl 2 m f), .c (.sl 1 n g), .c (.v (.string a))] => (.p (isC2 m f ∧ isS n g ∧ m ≤ 40 ∧ n ≤ 24), boolV (cauB (cssF f m) (dS g) n a))
  | _ => (.p False, .top)
noncomputable def gamAd : Gam := fun f => match f with
  | 115 => some sIcs
  | _ => gamAb f
theorem gamAd_ok : GOk Try.prog gamAd := fun f g h => by
  unfold gamAd at h
  split at h
  · injection h with h; subst h
    intro args hs _
    unfold sIcs at hs ⊢
    split at hs
    · rename_i m f n g a _
      obtain ⟨h1, h2, h3, h4⟩ := hs
      exact (alIsC (cssF f m) n (dS g) a h3 h4).le (Le.cons (Le1.sl h1) (Le.cons (Le1.sl h2) (Le.cons (Le1.refl _) Le.nil)))
    · exact hs.elim
  · exact gamAb_ok _ _ h
theorem isC2_c (C : Css) : isC2 C.m (cCs C) := fun _ _ j hj => match j, hj with | 0, _ => rfl | 1, _ => rfl
theorem cCs_eta (C : Css) : cauB (cssF (cCs C) C.m) = cauB C := rfl
/-- the causes among the first i -/
noncomputable abbrev cfL (C : Css) (l : Nat → ByteArray) (n i : Nat) : List ByteArray := (lsN l i).filter (cauB C l n)
theorem flt_len {P : ByteArray → Bool} {q : Nat → ByteArray} {i : Nat} (h : P (q i) = true) : ((lsN q (i + 1)).filter P) = ((lsN q i).filter P) ++ [q i] := by rw [fl_succ, if_pos h]
theorem flt_no {P : ByteArray → Bool} {q : Nat → ByteArray} {i : Nat} (h : P (q i) = false) : ((lsN q (i + 1)).filter P) = ((lsN q i).filter P) := by rw [fl_succ, if_neg (by rw [h]; decide), List.append_nil]
theorem alCof (C : Css) (n : Nat) (l : Nat → ByteArray) (hm : C.m ≤ 40) (hn : n ≤ 12) (hi0 : injN l n) : Fn Try.prog 80 [.c (.sl 2 C.m (cCs C)), .c (.sl 1 n (cS l))] (csK C l n) := by
  refine fn_of_wpx (O := lex) tab_ok gamAd_ok mixed Try.func80 (by kernel_rfl) rfl rfl rfl (by simp [Try.ntmps80]) (by kernel_rfl) ?_
  conv => whnf
  repeat' (first
    | (refine NilG.mk fun bn hbn hbx => ?_; conv => whnf)
    | (refine Both.mk ?_ ?_ <;> conv => whnf)
    | exact trivial
    | (refine Br.mk (fun hb => ?_) (fun hb => ?_) <;> (first | (exfalso; revert hb; decide) | ((try simp only [BL] at hb) <;> (try simp only [DL] at hb) <;> (first | (exfalso; omega) | (conv => whnf)))))
    | (refine And.intro ?_ ?_; (focus (first | exact id | exact rfl | exact trivial | (intro hg; first | exact hg | exact rfl | (simp; done) | (simp at hg ⊢; assumption)) | omega | decide | exact is2_c _ _ _ | exact is1_c _ _ | exact isS_c _ _ | exact isB_c _ _ | exact Nat.le_refl _ | assumption | exact mulLe (by decide) (by omega) | exact mulLe2 (by decide) (by omega) (by omega) | (intros; simp only [BL] at *; omega) | (intros; (try simp only [BL] at *); (try simp only [DL] at *); omega) | (intros; simp only [BL] at *; rw [wr_id (by omega) (by omega)]; omega) | (intro h1 h2; exact Bool.and_eq_true_iff.2 ⟨h1, h2⟩) | (intros; simp_all; done))); conv => whnf)
    | (refine Or.inr (And.intro rfl ?_); first | (refine congrArg intV ?_) | (refine congrArg boolV ?_) | (refine tupII ?_ ?_) | (refine tupIII ?_ ?_ ?_) | (refine tupU ?_ ?_ ?_ ?_ ?_) | exact rfl))
  refine LoopG.nil 5 9 1 rfl ?_
  refine sem_loop tab_ok gamAd_ok mixed (by kernel_rfl) (O := lex) (fun i : Nat => ⟨[(0, .c (.sl 2 C.m (cCs C))), (1, .c (.sl 1 n (cS l))), (5, .own 0), (8, .c (.sl 1 n (cS l))), (9, intV n), (10, intV i)], [rY (cfL C l n i)]⟩) (fun i => i ≤ n) (fun i => n - i) ⟨0, [?_], Nat.zero_le _, ?_⟩ fun i hi => ?_
  rotate_left 1
  · refine Sub.of ?_ ?_ ?_
    repeat' (first | (refine And.intro ?_ ?_) | exact trivial | exact fun _ _ _ => hsc _ _ | (exact congrArg intV (by first | with_reducible rfl | with_reducible assumption)) | exact (rfl : AV.idsLt _ _ = true) | exact (rfl : _ = AV.ren _ (.own _)) | exact (rfl : _ = AV.ren _ (.fn _ _)) | exact (rfl : _ = AV.ren _ (.gh _)) | (exact congrArg intV (by assumption)) | (refine congrArg intV ((wr_id (by omega) (by omega)).trans (by omega))) | exact rfl | (simp only [Int.toNat_natCast, Int.toNat_zero, Nat.sub_zero, Nat.zero_add]; first | exact rfl | done) | exact all0 | exact fun h => Bool.noConfusion h | exact fun _ _ _ _ => rfl | omega)
  have hln : (cfL C l n i).length ≤ i := fl_len (cauB C l n) l i
  have hb16 : e9.bytes = 16 := rfl
  conv => whnf
  repeat' (first
    | (refine NilG.mk fun bn hbn hbx => ?_; conv => whnf)
    | (refine Both.mk ?_ ?_ <;> conv => whnf)
    | exact trivial
    | (refine Br.mk (fun hb => ?_) (fun hb => ?_) <;> (first | (exfalso; revert hb; decide) | ((try simp only [BL] at hb) <;> (try simp only [DL] at hb) <;> (first | (exfalso; omega) | (conv => whnf)))))
    | (refine And.intro ?_ ?_; (focus (first | exact id | exact rfl | exact trivial | (intro hg; first | exact hg | exact rfl | (simp; done) | (simp at hg ⊢; assumption)) | omega | decide | exact is2_c _ _ _ | exact is1_c _ _ | exact isS_c _ _ | exact isB_c _ _ | exact Nat.le_refl _ | assumption | exact mulLe (by decide) (by omega) | exact mulLe2 (by decide) (by omega) (by omega) | (intros; simp only [BL] at *; omega) | (intros; (try simp only [BL] at *); (try simp only [DL] at *); omega) | (intros; simp only [BL] at *; rw [wr_id (by omega) (by omega)]; omega) | (intro h1 h2; exact Bool.and_eq_true_iff.2 ⟨h1, h2⟩) | first | exact ⟨rfl, by omega, by decide⟩ | exact ⟨isC2_c C, isS_c _ _, hm, by omega⟩ | (rw [hb16]; omega) | (intros; simp_all; done))); conv => whnf)
    | (refine Or.inr (And.intro rfl ?_); first | (refine congrArg intV ?_) | (refine congrArg boolV ?_) | (refine tupII ?_ ?_) | (refine tupIII ?_ ?_ ?_) | (refine tupU ?_ ?_ ?_ ?_ ?_) | exact rfl))
  · have e1 : cfL C l n (i + 1) = cfL C l n i ++ [l i] := flt_len hb
    refine ⟨i + 1, [?_], (by omega : i + 1 ≤ n), by omega, ?_⟩
    rotate_left 1
    refine Sub.of ?_ ?_ ?_
    repeat' (first | (refine And.intro ?_ ?_) | exact trivial | exact fun _ _ _ => hsc _ _ | (exact congrArg intV (by first | with_reducible rfl | with_reducible assumption)) | exact (rfl : AV.idsLt _ _ = true) | exact (rfl : _ = AV.ren _ (.own _)) | exact (rfl : _ = AV.ren _ (.fn _ _)) | exact (rfl : _ = AV.ren _ (.gh _)) | (exact congrArg intV (by assumption)) | (refine congrArg intV ((wr_id (by omega) (by omega)).trans (by omega))) | exact rfl | (simp only [Int.toNat_natCast, Int.toNat_zero, Nat.sub_zero, Nat.zero_add]; first | exact rfl | done) | exact all0 | exact fun h => Bool.noConfusion h | exact fun _ _ _ _ => rfl | omega)
    · rw [e1]; simp
    · rw [e1]; exact apY
  · have e1 : cfL C l n (i + 1) = cfL C l n i := flt_no hb
    refine ⟨i + 1, [?_], (by omega : i + 1 ≤ n), by omega, ?_⟩
    rotate_left 1
    refine Sub.of ?_ ?_ ?_
    repeat' (first | (refine And.intro ?_ ?_) | exact trivial | exact fun _ _ _ => hsc _ _ | (exact congrArg intV (by first | with_reducible rfl | with_reducible assumption)) | exact (rfl : AV.idsLt _ _ = true) | exact (rfl : _ = AV.ren _ (.own _)) | exact (rfl : _ = AV.ren _ (.fn _ _)) | exact (rfl : _ = AV.ren _ (.gh _)) | (exact congrArg intV (by assumption)) | (refine congrArg intV ((wr_id (by omega) (by omega)).trans (by omega))) | exact rfl | (simp only [Int.toNat_natCast, Int.toNat_zero, Nat.sub_zero, Nat.zero_add]; first | exact rfl | done) | exact all0 | exact fun h => Bool.noConfusion h | exact fun _ _ _ _ => rfl | omega)
    · rw [e1]
    · rw [e1]; exact fun _ _ _ _ => rfl
  · obtain rfl : i = n := by omega
    have hnd : injN (lY (cfL C l i i)) (cfL C l i i).length := inj_lY.2 ((inj_ls.1 hi0).filter _)
    refine CallG.wr [0] rfl (FnM.mono (alSort (cfL C l i i).length (lY (cfL C l i i)) (by omega) hnd) ?_)
    rintro obs r ⟨q, q1, q2, q3, rfl, rfl⟩
    conv => whnf
    repeat' (first
      | (refine NilG.mk fun bn hbn hbx => ?_; conv => whnf)
      | (refine Both.mk ?_ ?_ <;> conv => whnf)
      | exact trivial
      | (refine Br.mk (fun hb => ?_) (fun hb => ?_) <;> (first | (exfalso; revert hb; decide) | ((try simp only [BL] at hb) <;> (try simp only [DL] at hb) <;> (first | (exfalso; omega) | (conv => whnf)))))
      | (refine And.intro ?_ ?_; (focus (first | exact id | exact rfl | exact trivial | (intro hg; first | exact hg | exact rfl | (simp; done) | (simp at hg ⊢; assumption)) | omega | decide | exact is2_c _ _ _ | exact is1_c _ _ | exact isS_c _ _ | exact isB_c _ _ | exact Nat.le_refl _ | assumption | exact mulLe (by decide) (by omega) | exact mulLe2 (by decide) (by omega) (by omega) | (intros; simp only [BL] at *; omega) | (intros; (try simp only [BL] at *); (try simp only [DL] at *); omega) | (intros; simp only [BL] at *; rw [wr_id (by omega) (by omega)]; omega) | (intro h1 h2; exact Bool.and_eq_true_iff.2 ⟨h1, h2⟩) | (intros; simp_all; done))); conv => whnf)
      | (refine Or.inr (And.intro rfl ?_); first | (refine congrArg intV ?_) | (refine congrArg boolV ?_) | (refine tupII ?_ ?_) | (refine tupIII ?_ ?_ ?_) | (refine tupU ?_ ?_ ?_ ?_ ?_) | exact rfl))
    refine .inr ⟨rfl, _, q, ⟨hln, q2, fun x => (q1 x).symm.symm.trans ?_⟩, rfl⟩
    rw [mem_lY, List.mem_filter, mem_lsN]
    constructor
    · rintro ⟨⟨k, h1, h2⟩, h3⟩
      exact ⟨k, h1, h2, h3⟩
    · rintro ⟨k, h1, h2, h3⟩
      exact ⟨⟨k, h1, h2⟩, h3⟩
theorem alCs (C : Css) (n : Nat) (l : Nat → ByteArray) (hC : C.ok) (hl : nmOk n l) (hn : n ≤ 12) (h0 : alE C n l = 0) (hm : C.m ≤ 40) (hi0 : injN l n) : Fn Try.prog 35 [.c (.sl 2 C.m (cCs C)), .c (.sl 1 n (cS l))] (fun obs r => obs = [] ∧ ∃ m q, csP C l n m q ∧ r = .tup [.c (.sl 1 m (cS q)), intV 0]) := by
  refine fn_of_wpx (O := lex) tab_ok gamAd_ok mixed Try.func35 (by kernel_rfl) rfl rfl rfl (by simp [Try.ntmps35]) (by kernel_rfl) ?_
  conv => whnf
  repeat' (first
    | (refine NilG.mk fun bn hbn hbx => ?_; conv => whnf)
    | (refine Both.mk ?_ ?_ <;> conv => whnf)
    | exact trivial
    | (refine Br.mk (fun hb => ?_) (fun hb => ?_) <;> (first | (exfalso; revert hb; decide) | ((try simp only [BL] at hb) <;> (try simp only [DL] at hb) <;> conv => whnf)))
    | (refine And.intro ?_ ?_; (focus (first | exact id | exact rfl | exact trivial | (intro hg; first | exact hg | exact rfl | (simp; done) | (simp at hg ⊢; assumption)) | omega | decide | exact is2_c _ _ _ | exact is1_c _ _ | exact isS_c _ _ | exact isB_c _ _ | exact Nat.le_refl _ | assumption | exact mulLe (by decide) (by omega) | exact mulLe2 (by decide) (by omega) (by omega) | (intros; simp only [BL] at *; omega) | (intros; (try simp only [BL] at *); (try simp only [DL] at *); omega) | (intros; simp only [BL] at *; rw [wr_id (by omega) (by omega)]; omega) | (intro h1 h2; exact Bool.and_eq_true_iff.2 ⟨h1, h2⟩) | (intros; simp_all; done))); conv => whnf)
    | (refine Or.inr (And.intro rfl ?_); first | (refine congrArg intV ?_) | (refine congrArg boolV ?_) | (refine tupII ?_ ?_) | (refine tupIII ?_ ?_ ?_) | (refine tupU ?_ ?_ ?_ ?_ ?_) | exact rfl))
  refine CallG.mk (Fn.mono (alChk C n l hC hl) ?_)
  rintro obs r ⟨rfl, rfl⟩
  rw [h0]
  conv => whnf
  repeat' (first
    | (refine NilG.mk fun bn hbn hbx => ?_; conv => whnf)
    | (refine Both.mk ?_ ?_ <;> conv => whnf)
    | exact trivial
    | (refine Br.mk (fun hb => ?_) (fun hb => ?_) <;> (first | (exfalso; revert hb; decide) | ((try simp only [BL] at hb) <;> (try simp only [DL] at hb) <;> (first | (exfalso; omega) | (conv => whnf)))))
    | (refine And.intro ?_ ?_; (focus (first | exact id | exact rfl | exact trivial | (intro hg; first | exact hg | exact rfl | (simp; done) | (simp at hg ⊢; assumption)) | omega | decide | exact is2_c _ _ _ | exact is1_c _ _ | exact isS_c _ _ | exact isB_c _ _ | exact Nat.le_refl _ | assumption | exact mulLe (by decide) (by omega) | exact mulLe2 (by decide) (by omega) (by omega) | (intros; simp only [BL] at *; omega) | (intros; (try simp only [BL] at *); (try simp only [DL] at *); omega) | (intros; simp only [BL] at *; rw [wr_id (by omega) (by omega)]; omega) | (intro h1 h2; exact Bool.and_eq_true_iff.2 ⟨h1, h2⟩) | (intros; simp_all; done))); conv => whnf)
    | (refine Or.inr (And.intro rfl ?_); first | (refine congrArg intV ?_) | (refine congrArg boolV ?_) | (refine tupII ?_ ?_) | (refine tupIII ?_ ?_ ?_) | (refine tupU ?_ ?_ ?_ ?_ ?_) | exact rfl))
  refine CallG.mk (Fn.mono (alCof C n l hm hn hi0) ?_)
  rintro obs r ⟨rfl, m, q, hq, rfl⟩
  conv => whnf
  repeat' (first
    | (refine NilG.mk fun bn hbn hbx => ?_; conv => whnf)
    | (refine Both.mk ?_ ?_ <;> conv => whnf)
    | exact trivial
    | (refine Br.mk (fun hb => ?_) (fun hb => ?_) <;> (first | (exfalso; revert hb; decide) | ((try simp only [BL] at hb) <;> (try simp only [DL] at hb) <;> (first | (exfalso; omega) | (conv => whnf)))))
    | (refine And.intro ?_ ?_; (focus (first | exact id | exact rfl | exact trivial | (intro hg; first | exact hg | exact rfl | (simp; done) | (simp at hg ⊢; assumption)) | omega | decide | exact is2_c _ _ _ | exact is1_c _ _ | exact isS_c _ _ | exact isB_c _ _ | exact Nat.le_refl _ | assumption | exact mulLe (by decide) (by omega) | exact mulLe2 (by decide) (by omega) (by omega) | (intros; simp only [BL] at *; omega) | (intros; (try simp only [BL] at *); (try simp only [DL] at *); omega) | (intros; simp only [BL] at *; rw [wr_id (by omega) (by omega)]; omega) | (intro h1 h2; exact Bool.and_eq_true_iff.2 ⟨h1, h2⟩) | (intros; simp_all; done))); conv => whnf)
    | (refine Or.inr (And.intro rfl ?_); first | (refine congrArg intV ?_) | (refine congrArg boolV ?_) | (refine tupII ?_ ?_) | (refine tupIII ?_ ?_ ?_) | (refine tupU ?_ ?_ ?_ ?_ ?_) | exact rfl))
  exact .inr ⟨rfl, m, q, hq, rfl⟩
theorem alCsE (C : Css) (n : Nat) (l : Nat → ByteArray) (hC : C.ok) (hl : nmOk n l) (h0 : alE C n l ≠ 0) : Fn1 Try.prog 35 [.c (.sl 2 C.m (cCs C)), .c (.sl 1 n (cS l))] (.tup [.c (.v (.slice none 0 0)), intV (alE C n l)]) := by
  refine fn_of_wpx (O := lex) tab_ok gamAd_ok mixed Try.func35 (by kernel_rfl) rfl rfl rfl (by simp [Try.ntmps35]) (by kernel_rfl) ?_
  conv => whnf
  repeat' (first
    | (refine NilG.mk fun bn hbn hbx => ?_; conv => whnf)
    | (refine Both.mk ?_ ?_ <;> conv => whnf)
    | exact trivial
    | (refine Br.mk (fun hb => ?_) (fun hb => ?_) <;> (first | (exfalso; revert hb; decide) | ((try simp only [BL] at hb) <;> (try simp only [DL] at hb) <;> conv => whnf)))
    | (refine And.intro ?_ ?_; (focus (first | exact id | exact rfl | exact trivial | (intro hg; first | exact hg | exact rfl | (simp; done) | (simp at hg ⊢; assumption)) | omega | decide | exact is2_c _ _ _ | exact is1_c _ _ | exact isS_c _ _ | exact isB_c _ _ | exact Nat.le_refl _ | assumption | exact mulLe (by decide) (by omega) | exact mulLe2 (by decide) (by omega) (by omega) | (intros; simp only [BL] at *; omega) | (intros; (try simp only [BL] at *); (try simp only [DL] at *); omega) | (intros; simp only [BL] at *; rw [wr_id (by omega) (by omega)]; omega) | (intro h1 h2; exact Bool.and_eq_true_iff.2 ⟨h1, h2⟩) | (intros; simp_all; done))); conv => whnf)
    | (refine Or.inr (And.intro rfl ?_); first | (refine congrArg intV ?_) | (refine congrArg boolV ?_) | (refine tupII ?_ ?_) | (refine tupIII ?_ ?_ ?_) | (refine tupU ?_ ?_ ?_ ?_ ?_) | exact rfl))
  refine CallG.mk (Fn.mono (alChk C n l hC hl) ?_)
  rintro obs r ⟨rfl, rfl⟩
  conv => whnf
  repeat' (first
    | (refine NilG.mk fun bn hbn hbx => ?_; conv => whnf)
    | (refine Both.mk ?_ ?_ <;> conv => whnf)
    | exact trivial
    | (refine Br.mk (fun hb => ?_) (fun hb => ?_) <;> (first | (exfalso; revert hb; decide) | ((try simp only [BL] at hb) <;> (try simp only [DL] at hb) <;> (first | (exfalso; omega) | (conv => whnf)))))
    | (refine And.intro ?_ ?_; (focus (first | exact id | exact rfl | exact trivial | (intro hg; first | exact hg | exact rfl | (simp; done) | (simp at hg ⊢; assumption)) | omega | decide | exact is2_c _ _ _ | exact is1_c _ _ | exact isS_c _ _ | exact isB_c _ _ | exact Nat.le_refl _ | assumption | exact mulLe (by decide) (by omega) | exact mulLe2 (by decide) (by omega) (by omega) | (intros; simp only [BL] at *; omega) | (intros; (try simp only [BL] at *); (try simp only [DL] at *); omega) | (intros; simp only [BL] at *; rw [wr_id (by omega) (by omega)]; omega) | (intro h1 h2; exact Bool.and_eq_true_iff.2 ⟨h1, h2⟩) | (intros; simp_all; done))); conv => whnf)
    | (refine Or.inr (And.intro rfl ?_); first | (refine congrArg intV ?_) | (refine congrArg boolV ?_) | (refine tupII ?_ ?_) | (refine tupIII ?_ ?_ ?_) | (refine tupU ?_ ?_ ?_ ?_ ?_) | exact rfl))
theorem alXpE (C : Css) (n : Nat) (l : Nat → ByteArray) (a : ByteArray) (hC : C.ok) (hl : nmOk n l) (h0 : alE C n l ≠ 0) : Fn1 Try.prog 36 [.c (.sl 2 C.m (cCs C)), .c (.sl 1 n (cS l)), strV a] (.tup [.c (.v (.slice none 0 0)), intV (alE C n l)]) := by
  refine fn_of_wpx (O := lex) tab_ok gamAd_ok mixed Try.func36 (by kernel_rfl) rfl rfl rfl (by simp [Try.ntmps36]) (by kernel_rfl) ?_
  conv => whnf
  repeat' (first
    | (refine NilG.mk fun bn hbn hbx => ?_; conv => whnf)
    | (refine Both.mk ?_ ?_ <;> conv => whnf)
    | exact trivial
    | (refine Br.mk (fun hb => ?_) (fun hb => ?_) <;> (first | (exfalso; revert hb; decide) | ((try simp only [BL] at hb) <;> (try simp only [DL] at hb) <;> conv => whnf)))
    | (refine And.intro ?_ ?_; (focus (first | exact id | exact rfl | exact trivial | (intro hg; first | exact hg | exact rfl | (simp; done) | (simp at hg ⊢; assumption)) | omega | decide | exact is2_c _ _ _ | exact is1_c _ _ | exact isS_c _ _ | exact isB_c _ _ | exact Nat.le_refl _ | assumption | exact mulLe (by decide) (by omega) | exact mulLe2 (by decide) (by omega) (by omega) | (intros; simp only [BL] at *; omega) | (intros; (try simp only [BL] at *); (try simp only [DL] at *); omega) | (intros; simp only [BL] at *; rw [wr_id (by omega) (by omega)]; omega) | (intro h1 h2; exact Bool.and_eq_true_iff.2 ⟨h1, h2⟩) | (intros; simp_all; done))); conv => whnf)
    | (refine Or.inr (And.intro rfl ?_); first | (refine congrArg intV ?_) | (refine congrArg boolV ?_) | (refine tupII ?_ ?_) | (refine tupIII ?_ ?_ ?_) | (refine tupU ?_ ?_ ?_ ?_ ?_) | exact rfl))
  refine CallG.mk (Fn.mono (alChk C n l hC hl) ?_)
  rintro obs r ⟨rfl, rfl⟩
  conv => whnf
  repeat' (first
    | (refine NilG.mk fun bn hbn hbx => ?_; conv => whnf)
    | (refine Both.mk ?_ ?_ <;> conv => whnf)
    | exact trivial
    | (refine Br.mk (fun hb => ?_) (fun hb => ?_) <;> (first | (exfalso; revert hb; decide) | ((try simp only [BL] at hb) <;> (try simp only [DL] at hb) <;> (first | (exfalso; omega) | (conv => whnf)))))
    | (refine And.intro ?_ ?_; (focus (first | exact id | exact rfl | exact trivial | (intro hg; first | exact hg | exact rfl | (simp; done) | (simp at hg ⊢; assumption)) | omega | decide | exact is2_c _ _ _ | exact is1_c _ _ | exact isS_c _ _ | exact isB_c _ _ | exact Nat.le_refl _ | assumption | exact mulLe (by decide) (by omega) | exact mulLe2 (by decide) (by omega) (by omega) | (intros; simp only [BL] at *; omega) | (intros; (try simp only [BL] at *); (try simp only [DL] at *); omega) | (intros; simp only [BL] at *; rw [wr_id (by omega) (by omega)]; omega) | (intro h1 h2; exact Bool.and_eq_true_iff.2 ⟨h1, h2⟩) | (intros; simp_all; done))); conv => whnf)
    | (refine Or.inr (And.intro rfl ?_); first | (refine congrArg intV ?_) | (refine congrArg boolV ?_) | (refine tupII ?_ ?_) | (refine tupIII ?_ ?_ ?_) | (refine tupU ?_ ?_ ?_ ?_ ?_) | exact rfl))
theorem alXpN (C : Css) (n : Nat) (l : Nat → ByteArray) (a : ByteArray) (hC : C.ok) (hl : nmOk n l) (h0 : alE C n l = 0) (h1 : hasB l n a = false) : Fn1 Try.prog 36 [.c (.sl 2 C.m (cCs C)), .c (.sl 1 n (cS l)), strV a] (.tup [.c (.v (.slice none 0 0)), intV 8]) := by
  refine fn_of_wpx (O := lex) tab_ok gamAd_ok mixed Try.func36 (by kernel_rfl) rfl rfl rfl (by simp [Try.ntmps36]) (by kernel_rfl) ?_
  have hl1 := hl.1
  conv => whnf
  repeat' (first
    | (refine NilG.mk fun bn hbn hbx => ?_; conv => whnf)
    | (refine Both.mk ?_ ?_ <;> conv => whnf)
    | exact trivial
    | (refine Br.mk (fun hb => ?_) (fun hb => ?_) <;> (first | (exfalso; revert hb; decide) | ((try simp only [BL] at hb) <;> (try simp only [DL] at hb) <;> conv => whnf)))
    | (refine And.intro ?_ ?_; (focus (first | exact id | exact rfl | exact trivial | (intro hg; first | exact hg | exact rfl | (simp; done) | (simp at hg ⊢; assumption)) | omega | decide | exact is2_c _ _ _ | exact is1_c _ _ | exact isS_c _ _ | exact isB_c _ _ | exact Nat.le_refl _ | assumption | exact mulLe (by decide) (by omega) | exact mulLe2 (by decide) (by omega) (by omega) | (intros; simp only [BL] at *; omega) | (intros; (try simp only [BL] at *); (try simp only [DL] at *); omega) | (intros; simp only [BL] at *; rw [wr_id (by omega) (by omega)]; omega) | (intro h1 h2; exact Bool.and_eq_true_iff.2 ⟨h1, h2⟩) | (intros; simp_all; done))); conv => whnf)
    | (refine Or.inr (And.intro rfl ?_); first | (refine congrArg intV ?_) | (refine congrArg boolV ?_) | (refine tupII ?_ ?_) | (refine tupIII ?_ ?_ ?_) | (refine tupU ?_ ?_ ?_ ?_ ?_) | exact rfl))
  refine CallG.mk (Fn.mono (alChk C n l hC hl) ?_)
  rintro obs r ⟨rfl, rfl⟩
  rw [h0]
  conv => whnf
  repeat' (first
    | (refine NilG.mk fun bn hbn hbx => ?_; conv => whnf)
    | (refine Both.mk ?_ ?_ <;> conv => whnf)
    | exact trivial
    | (refine Br.mk (fun hb => ?_) (fun hb => ?_) <;> (first | (exfalso; revert hb; decide) | ((try simp only [BL] at hb) <;> (try simp only [DL] at hb) <;> (first | (exfalso; omega) | (conv => whnf)))))
    | (refine And.intro ?_ ?_; (focus (first | exact id | exact rfl | exact trivial | (intro hg; first | exact hg | exact rfl | (simp; done) | (simp at hg ⊢; assumption)) | omega | decide | exact is2_c _ _ _ | exact is1_c _ _ | exact isS_c _ _ | exact isB_c _ _ | exact Nat.le_refl _ | assumption | exact mulLe (by decide) (by omega) | exact mulLe2 (by decide) (by omega) (by omega) | (intros; simp only [BL] at *; omega) | (intros; (try simp only [BL] at *); (try simp only [DL] at *); omega) | (intros; simp only [BL] at *; rw [wr_id (by omega) (by omega)]; omega) | (intro h1 h2; exact Bool.and_eq_true_iff.2 ⟨h1, h2⟩) | first | exact ⟨isS_c _ _, hl1⟩ | (intros; simp_all; done))); conv => whnf)
    | (refine Or.inr (And.intro rfl ?_); first | (refine congrArg intV ?_) | (refine congrArg boolV ?_) | (refine tupII ?_ ?_) | (refine tupIII ?_ ?_ ?_) | (refine tupU ?_ ?_ ?_ ?_ ?_) | exact rfl))
  · exfalso
    have h2 : hasB l n a = true := hb
    rw [h1] at h2
    cases h2
theorem alXp (C : Css) (n : Nat) (l : Nat → ByteArray) (a : ByteArray) (hC : C.ok) (hl : nmOk n l) (hn : n ≤ 12) (h0 : alE C n l = 0) (h1 : hasB l n a = true) (hm : C.m ≤ 40) (hi0 : injN l n) : Fn Try.prog 36 [.c (.sl 2 C.m (cCs C)), .c (.sl 1 n (cS l)), strV a] (fun obs r => obs = [] ∧ ∃ m q, (m ≤ n ∧ srtN q m ∧ ∀ x, (∃ j, j < m ∧ q j = x) ↔ ∃ k, k < n ∧ l k = x ∧ cauB C l n x = true ∧ (x = a ∨ pth C l n n a x)) ∧ r = .tup [.c (.sl 1 m (cS q)), intV 0]) := by
  refine fn_of_wpx (O := lex) tab_ok gamAd_ok mixed Try.func36 (by kernel_rfl) rfl rfl rfl (by simp [Try.ntmps36]) (by kernel_rfl) ?_
  have hl1 := hl.1
  conv => whnf
  repeat' (first
    | (refine NilG.mk fun bn hbn hbx => ?_; conv => whnf)
    | (refine Both.mk ?_ ?_ <;> conv => whnf)
    | exact trivial
    | (refine Br.mk (fun hb => ?_) (fun hb => ?_) <;> (first | (exfalso; revert hb; decide) | ((try simp only [BL] at hb) <;> (try simp only [DL] at hb) <;> conv => whnf)))
    | (refine And.intro ?_ ?_; (focus (first | exact id | exact rfl | exact trivial | (intro hg; first | exact hg | exact rfl | (simp; done) | (simp at hg ⊢; assumption)) | omega | decide | exact is2_c _ _ _ | exact is1_c _ _ | exact isS_c _ _ | exact isB_c _ _ | exact Nat.le_refl _ | assumption | exact mulLe (by decide) (by omega) | exact mulLe2 (by decide) (by omega) (by omega) | (intros; simp only [BL] at *; omega) | (intros; (try simp only [BL] at *); (try simp only [DL] at *); omega) | (intros; simp only [BL] at *; rw [wr_id (by omega) (by omega)]; omega) | (intro h1 h2; exact Bool.and_eq_true_iff.2 ⟨h1, h2⟩) | (intros; simp_all; done))); conv => whnf)
    | (refine Or.inr (And.intro rfl ?_); first | (refine congrArg intV ?_) | (refine congrArg boolV ?_) | (refine tupII ?_ ?_) | (refine tupIII ?_ ?_ ?_) | (refine tupU ?_ ?_ ?_ ?_ ?_) | exact rfl))
  refine CallG.mk (Fn.mono (alChk C n l hC hl) ?_)
  rintro obs r ⟨rfl, rfl⟩
  rw [h0]
  conv => whnf
  repeat' (first
    | (refine NilG.mk fun bn hbn hbx => ?_; conv => whnf)
    | (refine Both.mk ?_ ?_ <;> conv => whnf)
    | exact trivial
    | (refine Br.mk (fun hb => ?_) (fun hb => ?_) <;> (first | (exfalso; revert hb; decide) | ((try simp only [BL] at hb) <;> (try simp only [DL] at hb) <;> (first | (exfalso; omega) | (conv => whnf)))))
    | (refine And.intro ?_ ?_; (focus (first | exact id | exact rfl | exact trivial | (intro hg; first | exact hg | exact rfl | (simp; done) | (simp at hg ⊢; assumption)) | omega | decide | exact is2_c _ _ _ | exact is1_c _ _ | exact isS_c _ _ | exact isB_c _ _ | exact Nat.le_refl _ | assumption | exact mulLe (by decide) (by omega) | exact mulLe2 (by decide) (by omega) (by omega) | (intros; simp only [BL] at *; omega) | (intros; (try simp only [BL] at *); (try simp only [DL] at *); omega) | (intros; simp only [BL] at *; rw [wr_id (by omega) (by omega)]; omega) | (intro h1 h2; exact Bool.and_eq_true_iff.2 ⟨h1, h2⟩) | first | exact ⟨isS_c _ _, hl1⟩ | (intros; simp_all; done))); conv => whnf)
    | (refine Or.inr (And.intro rfl ?_); first | (refine congrArg intV ?_) | (refine congrArg boolV ?_) | (refine tupII ?_ ?_) | (refine tupIII ?_ ?_ ?_) | (refine tupU ?_ ?_ ?_ ?_ ?_) | exact rfl))
  · exfalso
    have h2 : hasB l n a = false := hb
    rw [h1] at h2
    cases h2
  refine CallG.mk (Fn.mono (alXpl C n l a hm (by omega)) ?_)
  rintro obs r ⟨rfl, by_, b1, b2, b3, rfl⟩
  conv => whnf
  repeat' (first
    | (refine NilG.mk fun bn hbn hbx => ?_; conv => whnf)
    | (refine Both.mk ?_ ?_ <;> conv => whnf)
    | exact trivial
    | (refine Br.mk (fun hb => ?_) (fun hb => ?_) <;> (first | (exfalso; revert hb; decide) | ((try simp only [BL] at hb) <;> (try simp only [DL] at hb) <;> (first | (exfalso; omega) | (conv => whnf)))))
    | (refine And.intro ?_ ?_; (focus (first | exact id | exact rfl | exact trivial | (intro hg; first | exact hg | exact rfl | (simp; done) | (simp at hg ⊢; assumption)) | omega | decide | exact is2_c _ _ _ | exact is1_c _ _ | exact isS_c _ _ | exact isB_c _ _ | exact Nat.le_refl _ | assumption | exact mulLe (by decide) (by omega) | exact mulLe2 (by decide) (by omega) (by omega) | (intros; simp only [BL] at *; omega) | (intros; (try simp only [BL] at *); (try simp only [DL] at *); omega) | (intros; simp only [BL] at *; rw [wr_id (by omega) (by omega)]; omega) | (intro h1 h2; exact Bool.and_eq_true_iff.2 ⟨h1, h2⟩) | (intros; simp_all; done))); conv => whnf)
    | (refine Or.inr (And.intro rfl ?_); first | (refine congrArg intV ?_) | (refine congrArg boolV ?_) | (refine tupII ?_ ?_) | (refine tupIII ?_ ?_ ?_) | (refine tupU ?_ ?_ ?_ ?_ ?_) | exact rfl))
  refine CallG.mk (Fn.mono (alCof C n l hm hn hi0) ?_)
  rintro obs r ⟨rfl, m, q, ⟨q1, q2, q3⟩, rfl⟩
  conv => whnf
  repeat' (first
    | (refine NilG.mk fun bn hbn hbx => ?_; conv => whnf)
    | (refine Both.mk ?_ ?_ <;> conv => whnf)
    | exact trivial
    | (refine Br.mk (fun hb => ?_) (fun hb => ?_) <;> (first | (exfalso; revert hb; decide) | ((try simp only [BL] at hb) <;> (try simp only [DL] at hb) <;> (first | (exfalso; omega) | (conv => whnf)))))
    | (refine And.intro ?_ ?_; (focus (first | exact id | exact rfl | exact trivial | (intro hg; first | exact hg | exact rfl | (simp; done) | (simp at hg ⊢; assumption)) | omega | decide | exact is2_c _ _ _ | exact is1_c _ _ | exact isS_c _ _ | exact isB_c _ _ | exact Nat.le_refl _ | assumption | exact mulLe (by decide) (by omega) | exact mulLe2 (by decide) (by omega) (by omega) | (intros; simp only [BL] at *; omega) | (intros; (try simp only [BL] at *); (try simp only [DL] at *); omega) | (intros; simp only [BL] at *; rw [wr_id (by omega) (by omega)]; omega) | (intro h1 h2; exact Bool.and_eq_true_iff.2 ⟨h1, h2⟩) | (intros; simp_all; done))); conv => whnf)
    | (refine Or.inr (And.intro rfl ?_); first | (refine congrArg intV ?_) | (refine congrArg boolV ?_) | (refine tupII ?_ ?_) | (refine tupIII ?_ ?_ ?_) | (refine tupU ?_ ?_ ?_ ?_ ?_) | exact rfl))
  obtain ⟨P, hP⟩ : ∃ P : ByteArray → Bool, P = fun x => (x.toList == a.toList) || hasB (lY by_) by_.length x := ⟨_, rfl⟩
  refine LoopG.nil 10 9 1 rfl ?_
  refine sem_loop tab_ok gamAd_ok mixed (by kernel_rfl) (O := lex) (fun i : Nat => ⟨[(2, strV a), (9, .c (.sl 1 by_.length (cS (lY by_)))), (10, .own 0), (29, .c (.sl 1 m (cS q))), (30, intV m), (31, intV i)], [rY ((lsN q i).filter P)]⟩) (fun i => i ≤ m) (fun i => m - i) ⟨0, [?_], Nat.zero_le _, ?_⟩ fun i hi => ?_
  rotate_left 1
  · refine Sub.of ?_ ?_ ?_
    repeat' (first | (refine And.intro ?_ ?_) | exact trivial | exact fun _ _ _ => hsc _ _ | (exact congrArg intV (by first | with_reducible rfl | with_reducible assumption)) | exact (rfl : AV.idsLt _ _ = true) | exact (rfl : _ = AV.ren _ (.own _)) | exact (rfl : _ = AV.ren _ (.fn _ _)) | exact (rfl : _ = AV.ren _ (.gh _)) | (exact congrArg intV (by assumption)) | (refine congrArg intV ((wr_id (by omega) (by omega)).trans (by omega))) | exact rfl | (simp only [Int.toNat_natCast, Int.toNat_zero, Nat.sub_zero, Nat.zero_add]; first | exact rfl | done) | exact all0 | exact fun h => Bool.noConfusion h | exact fun _ _ _ _ => rfl | omega)
  have hln : ((lsN q i).filter P).length ≤ i := fl_len P q i
  have hb16 : e9.bytes = 16 := rfl
  conv => whnf
  repeat' (first
    | (refine NilG.mk fun bn hbn hbx => ?_; conv => whnf)
    | (refine Both.mk ?_ ?_ <;> conv => whnf)
    | exact trivial
    | (refine Br.mk (fun hb => ?_) (fun hb => ?_) <;> (first | (exfalso; revert hb; decide) | ((try simp only [BL] at hb) <;> (try simp only [DL] at hb) <;> (first | (exfalso; omega) | (conv => whnf)))))
    | (refine And.intro ?_ ?_; (focus (first | exact id | exact rfl | exact trivial | (intro hg; first | exact hg | exact rfl | (simp; done) | (simp at hg ⊢; assumption)) | omega | decide | exact is2_c _ _ _ | exact is1_c _ _ | exact isS_c _ _ | exact isB_c _ _ | exact Nat.le_refl _ | assumption | exact mulLe (by decide) (by omega) | exact mulLe2 (by decide) (by omega) (by omega) | (intros; simp only [BL] at *; omega) | (intros; (try simp only [BL] at *); (try simp only [DL] at *); omega) | (intros; simp only [BL] at *; rw [wr_id (by omega) (by omega)]; omega) | (intro h1 h2; exact Bool.and_eq_true_iff.2 ⟨h1, h2⟩) | first | exact ⟨rfl, by omega, by decide⟩ | exact fun _ => ⟨isS_c _ _, by unfold maxLen; omega⟩ | (rw [hb16]; omega) | (intros; simp_all; done))); conv => whnf)
    | (refine Or.inr (And.intro rfl ?_); first | (refine congrArg intV ?_) | (refine congrArg boolV ?_) | (refine tupII ?_ ?_) | (refine tupIII ?_ ?_ ?_) | (refine tupU ?_ ?_ ?_ ?_ ?_) | exact rfl))
  · have e1 : (lsN q (i + 1)).filter P = (lsN q i).filter P ++ [q i] := flt_len (by
      rw [hP]
      show ((q i).toList == a.toList || hasB (lY by_) by_.length (q i)) = true
      rw [Bool.or_eq_true]
      exact hb)
    refine ⟨i + 1, [?_], (by omega : i + 1 ≤ m), by omega, ?_⟩
    rotate_left 1
    refine Sub.of ?_ ?_ ?_
    repeat' (first | (refine And.intro ?_ ?_) | exact trivial | exact fun _ _ _ => hsc _ _ | (exact congrArg intV (by first | with_reducible rfl | with_reducible assumption)) | exact (rfl : AV.idsLt _ _ = true) | exact (rfl : _ = AV.ren _ (.own _)) | exact (rfl : _ = AV.ren _ (.fn _ _)) | exact (rfl : _ = AV.ren _ (.gh _)) | (exact congrArg intV (by assumption)) | (refine congrArg intV ((wr_id (by omega) (by omega)).trans (by omega))) | exact rfl | (simp only [Int.toNat_natCast, Int.toNat_zero, Nat.sub_zero, Nat.zero_add]; first | exact rfl | done) | exact all0 | exact fun h => Bool.noConfusion h | exact fun _ _ _ _ => rfl | omega)
    · rw [e1]; simp
    · rw [e1]; exact apY
  · have e1 : (lsN q (i + 1)).filter P = (lsN q i).filter P := flt_no (by
      rw [hP]
      show ((q i).toList == a.toList || hasB (lY by_) by_.length (q i)) = false
      rw [Bool.or_eq_false_iff]
      exact hb)
    refine ⟨i + 1, [?_], (by omega : i + 1 ≤ m), by omega, ?_⟩
    rotate_left 1
    refine Sub.of ?_ ?_ ?_
    repeat' (first | (refine And.intro ?_ ?_) | exact trivial | exact fun _ _ _ => hsc _ _ | (exact congrArg intV (by first | with_reducible rfl | with_reducible assumption)) | exact (rfl : AV.idsLt _ _ = true) | exact (rfl : _ = AV.ren _ (.own _)) | exact (rfl : _ = AV.ren _ (.fn _ _)) | exact (rfl : _ = AV.ren _ (.gh _)) | (exact congrArg intV (by assumption)) | (refine congrArg intV ((wr_id (by omega) (by omega)).trans (by omega))) | exact rfl | (simp only [Int.toNat_natCast, Int.toNat_zero, Nat.sub_zero, Nat.zero_add]; first | exact rfl | done) | exact all0 | exact fun h => Bool.noConfusion h | exact fun _ _ _ _ => rfl | omega)
    · rw [e1]
    · rw [e1]; exact fun _ _ _ _ => rfl
  · obtain rfl : i = m := by omega
    refine .inr ⟨rfl, _, lY ((lsN q i).filter P), ⟨by omega, stL_lY.2 (List.Pairwise.filter _ (stL_ls q2)), fun x => ?_⟩, rfl⟩
    rw [mem_lY, List.mem_filter, mem_lsN, q3 x, hP]
    show (_ ∧ (x.toList == a.toList || hasB (lY by_) by_.length x) = true) ↔ _
    rw [Bool.or_eq_true, hasY, b1, b_eq]
    constructor
    · rintro ⟨⟨k, k1, k2, k3⟩, k4⟩
      exact ⟨k, k1, k2, k3, k4⟩
    · rintro ⟨k, k1, k2, k3, k4⟩
      exact ⟨⟨k, k1, k2, k3⟩, k4⟩
end Go.Proofs.Ythbjdcopncebjaa
