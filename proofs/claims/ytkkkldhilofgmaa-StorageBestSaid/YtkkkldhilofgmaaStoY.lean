/-
  What the law of StorageBest calls; the chain of costs is one; the known example.
-/
import Derived.Test.YtkkkldhilofgmaaStoV
import Derived.Test.YtkkkldhilofgmaaCvxT
namespace Go.Proofs.Ytkkkldhilofgmaa
open Go.RowKit

def NEV : Int := 1152921504606846976
/-- the cost of a level, or never -/
def levV (f : Cxt) (k : Int) : Int := if f.lo ≤ k ∧ k ≤ f.hi then f.V k else NEV
def capN (s : Sto) : Nat := (s.cap + 1).toNat
def lvF (s : Sto) (G : Nat → Nat → Int) : Nat → Nat → L := fun t _ => .sl 1 (capN s) (c1 (G t))
def lvOk (s : Sto) (t : Nat) (F : Nat → Cxt) (G : Nat → Nat → Int) : Prop := ∀ u, u ≤ t → ∀ k, k < capN s → G u k = levV (F u) k
/-- the best of the first charges of a level -/
def accI (s : Sto) (f : Cxt) (pr i : Int) (z : Nat) (A : Int) : Prop := (∀ y : Int, -s.D ≤ y → y < -s.D + z → f.in (i - y) → A ≤ f.V (i - y) + pr * y) ∧ (A = NEV ∨ ∃ y : Int, -s.D ≤ y ∧ y < -s.D + z ∧ f.in (i - y) ∧ A = f.V (i - y) + pr * y)
theorem levV_lt {s : Sto} {t : Nat} {f : Cxt} (hf : stB s t f) (ht : t ≤ 24) (k : Int) : levV f k < NEV ↔ f.in k := by
  unfold levV
  by_cases h : f.lo ≤ k ∧ k ≤ f.hi
  · rw [if_pos h]
    have := hf.2.2.2.2 k h
    exact ⟨fun _ => h, fun _ => by unfold NEV; omega⟩
  · rw [if_neg h]
    exact ⟨fun h2 => absurd h2 (Int.lt_irrefl _), fun h2 => absurd h2 h⟩
theorem accI_zero (s : Sto) (f : Cxt) (pr i : Int) : accI s f pr i 0 NEV := ⟨fun y h1 h2 => absurd h2 (by omega), .inl rfl⟩
theorem accI_no {s : Sto} {f : Cxt} {pr i A : Int} {z : Nat} (h : accI s f pr i z A) (hn : ¬ f.in (i - (-s.D + z))) : accI s f pr i (z + 1) A := by
  refine ⟨fun y h1 h2 h3 => ?_, ?_⟩
  · by_cases e : y = -s.D + z
    · subst e; exact absurd h3 hn
    · exact h.1 y h1 (by omega) h3
  · rcases h.2 with e | ⟨y, h1, h2, h3⟩
    · exact .inl e
    · exact .inr ⟨y, h1, by omega, h3⟩
theorem accI_yes {s : Sto} {f : Cxt} {pr i A : Int} {z : Nat} (h : accI s f pr i z A) (hn : f.in (i - (-s.D + z))) : accI s f pr i (z + 1) (min A (f.V (i - (-s.D + z)) + pr * (-s.D + z))) := by
  refine ⟨fun y h1 h2 h3 => ?_, ?_⟩
  · by_cases e : y = -s.D + z
    · subst e; exact Int.min_le_right _ _
    · have := h.1 y h1 (by omega) h3
      omega
  · rcases Int.le_total A (f.V (i - (-s.D + z)) + pr * (-s.D + z)) with e | e
    · rw [Int.min_eq_left e]
      rcases h.2 with e | ⟨y, h1, h2, h3⟩
      · exact .inl e
      · exact .inr ⟨y, h1, by omega, h3⟩
    · rw [Int.min_eq_right e]
      exact .inr ⟨_, by omega, by omega, hn, rfl⟩
theorem accI_end {s : Sto} {t : Nat} {f g : Cxt} {pr i A : Int} {z : Nat} (hs : stOk s) (ht : t < 24) (hf : stB s t f) (hg : stB s (t + 1) g) (hR : stR s pr f g) (h0 : 0 ≤ i) (h1 : i ≤ s.cap) (hz : s.C < -s.D + z) (h : accI s f pr i z A) (hzz : -s.D + z ≤ s.C + 1) : A = levV g i := by
  unfold stOk at hs
  obtain ⟨-, r2, r3, -, r5⟩ := hR
  have hle := Cxt.le hf.1
  unfold levV
  by_cases hi : g.lo ≤ i ∧ i ≤ g.hi
  · rw [if_pos hi]
    obtain ⟨r6, b, c1, c2, c3, c4⟩ := r5 i hi
    have hV := hg.2.2.2.2 i hi
    have h2 := h.1 (i - b) c2 (by omega) (by rw [show i - (i - b) = b by omega]; exact c1)
    rw [show i - (i - b) = b by omega] at h2
    rcases h.2 with e | ⟨y, d1, d2, d3, d4⟩
    · unfold NEV at e; omega
    · have h3 := r6 (i - y) d3 (by omega) (by omega)
      rw [show i - (i - y) = y by omega] at h3
      omega
  · rw [if_neg hi]
    rcases h.2 with e | ⟨y, d1, d2, d3, d4⟩
    · exact e
    · have := d3.1
      have := d3.2
      exfalso; apply hi; omega
theorem LoopG.view {P : Program} {N : Nat} {c : Code} {S : AS} {K : Ex → AS → Prop} (t : Nat) {a a' : AV} (ht : fget S.fr t = a) (h : Le1 a a') (k : LoopG P N c ⟨(t, a') :: S.fr, S.obs⟩ K) : LoopG P N c S K :=
  ⟨fun w0 I0 σ I b w hd hN hr => k.sem w0 I0 σ I b w hd hN ⟨hr.same0, hr.st, fun t' => by
    have hf := hr.fr t'
    simp only [fget]
    by_cases hh : t = t'
    · subst hh
      rw [if_pos rfl]
      rw [ht] at hf
      exact h _ _ _ _ hf
    · rw [if_neg hh]; exact hf, hr.i1, hr.i2, hr.sz⟩⟩
def gamSX : Gam := fun f => match f with
  | 27 => some (s3 inB)
  | _ => none
theorem gamSX_ok : GOk Try.prog gamSX := fun f g h => by
  unfold gamSX at h
  split at h
  · injection h with h; subst h; exact s3_ok in3
  · cases h
theorem levV_beg {s : Sto} (hs : stOk s) (k : Int) : levV (begC s) k = if k = s.beg then 0 else NEV := by
  obtain ⟨b1, b2, b3, b4⟩ := begC_B hs
  unfold levV
  rw [b2, b3]
  by_cases e : k = s.beg
  · rw [if_pos e, if_pos (by omega), e]; exact b4
  · rw [if_neg e, if_neg (by omega)]
theorem stLevels (s : Sto) (m : Nat) (pr : Nat → Int) (F : Nat → Cxt) (hs : stOk s) (hm : m ≤ 24) (hp : prOk m pr) (hc : stCh s m pr F) : Fn Try.prog 26 [sV s, .c (.sl 1 m (c1 pr))] (fun obs r => obs = [] ∧ ∃ G, lvOk s m F G ∧ r = .c (.sl 1 (m + 1) (lvF s G))) := by
  refine fn_of_wpx (O := lex) tab_ok gamSX_ok mixed Try.func26 (by kernel_rfl) rfl rfl rfl (by simp [Try.ntmps26]) (by kernel_rfl) ?_
  have hs0 := hs
  unfold stOk at hs0
  have hcap : (capN s : Int) = s.cap + 1 := by unfold capN; omega
  have hb8 : e3.bytes = 8 := rfl
  have wc : IntKind.i64.wrap (s.cap + 1) = (capN s : Int) := (wr_id (by omega) (by omega)).trans (by omega)
  conv => whnf
  repeat' (first
    | (refine NilG.mk fun bn hbn hbx => ?_; conv => whnf)
    | (refine Both.mk ?_ ?_ <;> conv => whnf)
    | exact trivial
    | (refine Br.mk (fun hb => ?_) (fun hb => ?_) <;> (first | (exfalso; revert hb; decide) | ((try simp only [BL] at hb) <;> (try simp only [DL] at hb) <;> conv => whnf)))
    | (refine And.intro ?_ ?_; (focus (first | exact id | exact rfl | exact trivial | (intro hg; first | exact hg | exact rfl | (simp; done) | (simp at hg ⊢; assumption)) | omega | decide | exact is2_c _ _ _ | exact is1_c _ _ | exact isS_c _ _ | exact isB_c _ _ | exact Nat.le_refl _ | assumption | exact mulLe (by decide) (by omega) | exact mulLe2 (by decide) (by omega) (by omega) | (intros; simp only [BL] at *; omega) | (intros; (try simp only [BL] at *); (try simp only [DL] at *); omega) | (intros; simp only [BL] at *; rw [wr_id (by omega) (by omega)]; omega) | (intro h1 h2; exact Bool.and_eq_true_iff.2 ⟨h1, h2⟩) | first | (rw [wc]; omega) | (rw [wc, hb8]; omega) | (intros; simp_all; done))); conv => whnf)
    | (refine Or.inr (And.intro rfl ?_); first | (refine congrArg intV ?_) | (refine congrArg boolV ?_) | (refine tupII ?_ ?_) | (refine tupIII ?_ ?_ ?_) | (refine tupU ?_ ?_ ?_ ?_ ?_) | exact rfl))
  rw [wc, Int.toNat_natCast]
  refine sem_loop tab_ok gamSX_ok mixed (by kernel_rfl) (O := lex) (fun i : Nat => ⟨[(1, .c (.sl 1 m (c1 pr))), (2, .lp 0 0), (5, .own 1), (19, intV (capN s)), (20, intV i)], [.box [intV s.C, intV s.D, intV s.cap, intV s.beg, intV s.en], .row 3 1 (capN s) false (c1 fun k => if k < i then NEV else 0)]⟩) (fun i => i ≤ capN s) (fun i => capN s - i) ⟨0, [?_, ?_], Nat.zero_le _, ?_⟩ fun i hi => ?_
  rotate_left 2
  · refine Sub.of ?_ ?_ ?_
    repeat' (first | (refine And.intro ?_ ?_) | exact trivial | exact fun _ _ _ => hsc _ _ | (exact congrArg intV (by first | with_reducible rfl | with_reducible assumption)) | exact (rfl : AV.idsLt _ _ = true) | exact (rfl : _ = AV.ren _ (.own _)) | exact (rfl : _ = AV.ren _ (.fn _ _)) | exact (rfl : _ = AV.ren _ (.gh _)) | (exact congrArg intV (by assumption)) | (refine congrArg intV ((wr_id (by omega) (by omega)).trans (by omega))) | exact rfl | (simp only [Int.toNat_natCast, Int.toNat_zero, Nat.sub_zero, Nat.zero_add]; first | exact rfl | done) | exact all0 | exact fun h => Bool.noConfusion h | exact fun _ _ _ _ => rfl | omega)
    · intro a ha b hb9
      have hb9 : b < 1 := hb9
      match b, hb9 with
      | 0, _ => exact congrArg iL (if_neg (Nat.not_lt_zero a)).symm
  conv => whnf
  repeat' (first
    | (refine NilG.mk fun bn hbn hbx => ?_; conv => whnf)
    | (refine Both.mk ?_ ?_ <;> conv => whnf)
    | exact trivial
    | (refine Br.mk (fun hb => ?_) (fun hb => ?_) <;> (first | (exfalso; revert hb; decide) | ((try simp only [BL] at hb) <;> (try simp only [DL] at hb) <;> (first | (exfalso; omega) | (conv => whnf)))))
    | (refine And.intro ?_ ?_; (focus (first | exact id | exact rfl | exact trivial | (intro hg; first | exact hg | exact rfl | (simp; done) | (simp at hg ⊢; assumption)) | omega | decide | exact is2_c _ _ _ | exact is1_c _ _ | exact isS_c _ _ | exact isB_c _ _ | exact Nat.le_refl _ | assumption | exact mulLe (by decide) (by omega) | exact mulLe2 (by decide) (by omega) (by omega) | (intros; simp only [BL] at *; omega) | (intros; (try simp only [BL] at *); (try simp only [DL] at *); omega) | (intros; simp only [BL] at *; rw [wr_id (by omega) (by omega)]; omega) | (intro h1 h2; exact Bool.and_eq_true_iff.2 ⟨h1, h2⟩) | exact ⟨rfl, by omega, by decide⟩ | (intros; simp_all; done))); conv => whnf)
    | (refine Or.inr (And.intro rfl ?_); first | (refine congrArg intV ?_) | (refine congrArg boolV ?_) | (refine tupII ?_ ?_) | (refine tupIII ?_ ?_ ?_) | (refine tupU ?_ ?_ ?_ ?_ ?_) | exact rfl))
  · refine ⟨i + 1, [?_, ?_], by omega, by omega, ?_⟩
    rotate_left 2
    refine Sub.of ?_ ?_ ?_
    repeat' (first | (refine And.intro ?_ ?_) | exact trivial | exact fun _ _ _ => hsc _ _ | (exact congrArg intV (by first | with_reducible rfl | with_reducible assumption)) | exact (rfl : AV.idsLt _ _ = true) | exact (rfl : _ = AV.ren _ (.own _)) | exact (rfl : _ = AV.ren _ (.fn _ _)) | exact (rfl : _ = AV.ren _ (.gh _)) | (exact congrArg intV (by assumption)) | (refine congrArg intV ((wr_id (by omega) (by omega)).trans (by omega))) | exact rfl | (simp only [Int.toNat_natCast, Int.toNat_zero, Nat.sub_zero, Nat.zero_add]; first | exact rfl | done) | exact all0 | exact fun h => Bool.noConfusion h | exact fun _ _ _ _ => rfl | omega)
    intro a ha b hb9
    match b, hb9 with
    | 0, _ =>
      by_cases e : a = i
      · refine (if_pos e).trans ((if_pos ⟨Nat.zero_le _, Nat.zero_lt_one⟩).trans ?_)
        exact congrArg iL (if_pos (by omega)).symm
      · refine (if_neg e).trans (congrArg iL ?_)
        show (if a < i then NEV else 0) = if a < i + 1 then NEV else 0
        by_cases e2 : a < i
        · rw [if_pos e2, if_pos (by omega)]
        · rw [if_neg e2, if_neg (by omega)]
  obtain rfl : i = capN s := by omega
  have hrow : ∀ a, a < capN s → ∀ b, b < 1 → (if a = s.beg.toNat then (if 0 ≤ b ∧ b < 0 + [iL 0].length then ([iL 0][b - 0]?).getD .un else c1 (fun k => if k < capN s then NEV else 0) a b) else c1 (fun k => if k < capN s then NEV else 0) a b) = c1 (fun k : Nat => levV (begC s) k) a b := fun a ha b hb9 => by
    match b, hb9 with
    | 0, _ =>
      by_cases e : a = s.beg.toNat
      · refine (if_pos e).trans ((if_pos ⟨Nat.zero_le _, Nat.zero_lt_one⟩).trans (congrArg iL ?_))
        exact ((levV_beg hs a).trans (if_pos (by omega))).symm
      · refine (if_neg e).trans (congrArg iL ?_)
        show (if a < capN s then NEV else 0) = levV (begC s) a
        exact (if_pos ha).trans ((levV_beg hs a).trans (if_neg (by omega))).symm
  refine LoopG.objs [.box [intV s.C, intV s.D, intV s.cap, intV s.beg, intV s.en], .dead, .row 29 1 1 false (lvF s fun _ k => levV (begC s) k)] ⟨OLe.refl _, OLe.refl _, OLe.rowL fun k hk j hj => ?_, trivial⟩ ?_
  · match k, j, hk, hj with
    | 0, 0, _, _ => exact LLe.sl fun a ha b hb9 => LLe.of_eq (hrow a ha b hb9)
  refine LoopG.view 5 rfl (Le1.sl (g := c1 fun k : Nat => levV (begC s) k) hrow) ?_
  refine sem_loop tab_ok gamSX_ok mixed (by kernel_rfl) (O := lex) (fun x : Nat × (Nat → Nat → Int) => ⟨[(2, .lp 0 0), (5, .c (.sl 1 (capN s) (c1 (x.2 x.1)))), (7, .own 1), (33, .c (.sl 1 m (c1 pr))), (34, intV m), (35, intV x.1)], [.box [intV s.C, intV s.D, intV s.cap, intV s.beg, intV s.en], .row 29 1 (x.1 + 1) false (lvF s x.2)]⟩) (fun x => x.1 ≤ m ∧ lvOk s x.1 F x.2) (fun x => m - x.1) ⟨(0, fun _ k => levV (begC s) k), [?_, ?_], ⟨Nat.zero_le _, fun u hu k hk => by rw [show u = 0 from Nat.le_zero.1 hu, hc.1]⟩, ?_⟩ fun y hy => ?_
  rotate_left 2
  · refine Sub.of ?_ ?_ ?_
    repeat' (first | (refine And.intro ?_ ?_) | exact trivial | exact fun _ _ _ => hsc _ _ | (exact congrArg intV (by first | with_reducible rfl | with_reducible assumption)) | exact (rfl : AV.idsLt _ _ = true) | exact (rfl : _ = AV.ren _ (.own _)) | exact (rfl : _ = AV.ren _ (.fn _ _)) | exact (rfl : _ = AV.ren _ (.gh _)) | (exact congrArg intV (by assumption)) | (refine congrArg intV ((wr_id (by omega) (by omega)).trans (by omega))) | exact rfl | (simp only [Int.toNat_natCast, Int.toNat_zero, Nat.sub_zero, Nat.zero_add]; first | exact rfl | done) | exact all0 | exact fun h => Bool.noConfusion h | exact fun _ _ _ _ => rfl | omega)
  obtain ⟨t, G⟩ := y
  obtain ⟨ht, hG⟩ := hy
  dsimp only at ht hG ⊢
  conv => whnf
  repeat' (first
    | (refine NilG.mk fun bn hbn hbx => ?_; conv => whnf)
    | (refine Both.mk ?_ ?_ <;> conv => whnf)
    | exact trivial
    | (refine Br.mk (fun hb => ?_) (fun hb => ?_) <;> (first | (exfalso; revert hb; decide) | ((try simp only [BL] at hb) <;> (try simp only [DL] at hb) <;> (first | (exfalso; omega) | (conv => whnf)))))
    | (refine And.intro ?_ ?_; (focus (first | exact id | exact rfl | exact trivial | (intro hg; first | exact hg | exact rfl | (simp; done) | (simp at hg ⊢; assumption)) | omega | decide | exact is2_c _ _ _ | exact is1_c _ _ | exact isS_c _ _ | exact isB_c _ _ | exact Nat.le_refl _ | assumption | exact mulLe (by decide) (by omega) | exact mulLe2 (by decide) (by omega) (by omega) | (intros; simp only [BL] at *; omega) | (intros; (try simp only [BL] at *); (try simp only [DL] at *); omega) | (intros; simp only [BL] at *; rw [wr_id (by omega) (by omega)]; omega) | (intro h1 h2; exact Bool.and_eq_true_iff.2 ⟨h1, h2⟩) | first | (rw [wc]; omega) | (rw [wc, hb8]; omega) | (intros; simp_all; done))); conv => whnf)
    | (refine Or.inr (And.intro rfl ?_); first | (refine congrArg intV ?_) | (refine congrArg boolV ?_) | (refine tupII ?_ ?_) | (refine tupIII ?_ ?_ ?_) | (refine tupU ?_ ?_ ?_ ?_ ?_) | exact rfl))
  rotate_left
  · obtain rfl : t = m := by omega
    exact .inr ⟨rfl, G, hG, rfl⟩
  have htm : t < m := by omega
  have hBt := hc.2.2 t ht
  have hBn := hc.2.2 (t + 1) htm
  have hRt := hc.2.1 t htm
  have hpt := hp t htm
  have htl := Cxt.le hBt.1
  have hlo0 := hBt.2.1
  have hhi0 := hBt.2.2.1
  have hGt : ∀ k, k < capN s → G t k = levV (F t) k := fun k hk => hG t (Nat.le_refl t) k hk
  rw [wc, Int.toNat_natCast, Int.toNat_natCast]
  have wD : IntKind.i64.wrap (0 - s.D) = -s.D := (wr_id (by omega) (by omega)).trans (by omega)
  refine sem_loop tab_ok gamSX_ok mixed (by kernel_rfl) (O := lex) (fun i : Nat => ⟨[(2, .lp 0 0), (5, .c (.sl 1 (capN s) (c1 (G t)))), (7, .own 1), (9, intV (pr t)), (10, .own 2), (33, .c (.sl 1 m (c1 pr))), (34, intV m), (35, intV t), (44, intV (capN s)), (45, intV i)], [.box [intV s.C, intV s.D, intV s.cap, intV s.beg, intV s.en], .row 29 1 (t + 1) false (lvF s G), .row 3 1 (capN s) false (c1 fun k => if k < i then levV (F (t + 1)) k else 0)]⟩) (fun i => i ≤ capN s) (fun i => capN s - i) ⟨0, [?_, ?_, ?_], Nat.zero_le _, ?_⟩ fun i hi => ?_
  rotate_left 3
  · refine Sub.of ?_ ?_ ?_
    repeat' (first | (refine And.intro ?_ ?_) | exact trivial | exact fun _ _ _ => hsc _ _ | (exact congrArg intV (by first | with_reducible rfl | with_reducible assumption)) | exact (rfl : AV.idsLt _ _ = true) | exact (rfl : _ = AV.ren _ (.own _)) | exact (rfl : _ = AV.ren _ (.fn _ _)) | exact (rfl : _ = AV.ren _ (.gh _)) | (exact congrArg intV (by assumption)) | (refine congrArg intV ((wr_id (by omega) (by omega)).trans (by omega))) | exact rfl | (simp only [Int.toNat_natCast, Int.toNat_zero, Nat.sub_zero, Nat.zero_add]; first | exact rfl | done) | exact all0 | exact fun h => Bool.noConfusion h | exact fun _ _ _ _ => rfl | omega)
    · intro a ha b hb9
      have hb9 : b < 1 := hb9
      match b, hb9 with
      | 0, _ => exact congrArg iL (if_neg (Nat.not_lt_zero a)).symm
  conv => whnf
  repeat' (first
    | (refine NilG.mk fun bn hbn hbx => ?_; conv => whnf)
    | (refine Both.mk ?_ ?_ <;> conv => whnf)
    | exact trivial
    | (refine Br.mk (fun hb => ?_) (fun hb => ?_) <;> (first | (exfalso; revert hb; decide) | ((try simp only [BL] at hb) <;> (try simp only [DL] at hb) <;> (first | (exfalso; omega) | (conv => whnf)))))
    | (refine And.intro ?_ ?_; (focus (first | exact id | exact rfl | exact trivial | (intro hg; first | exact hg | exact rfl | (simp; done) | (simp at hg ⊢; assumption)) | omega | decide | exact is2_c _ _ _ | exact is1_c _ _ | exact isS_c _ _ | exact isB_c _ _ | exact Nat.le_refl _ | assumption | exact mulLe (by decide) (by omega) | exact mulLe2 (by decide) (by omega) (by omega) | (intros; simp only [BL] at *; omega) | (intros; (try simp only [BL] at *); (try simp only [DL] at *); omega) | (intros; simp only [BL] at *; rw [wr_id (by omega) (by omega)]; omega) | (intro h1 h2; exact Bool.and_eq_true_iff.2 ⟨h1, h2⟩) | exact ⟨rfl, by omega, by decide⟩ | (intros; simp_all; done))); conv => whnf)
    | (refine Or.inr (And.intro rfl ?_); first | (refine congrArg intV ?_) | (refine congrArg boolV ?_) | (refine tupII ?_ ?_) | (refine tupIII ?_ ?_ ?_) | (refine tupU ?_ ?_ ?_ ?_ ?_) | exact rfl))
  rotate_left
  · obtain rfl : i = capN s := by omega
    have e35 : IntKind.i64.wrap ((t : Int) + 1) = ((t + 1 : Nat) : Int) := (wr_id (by omega) (by omega)).trans (by omega)
    have hN : lvOk s (t + 1) F (fun u => if u < t + 1 then G u else fun k => if k < capN s then levV (F (t + 1)) k else 0) := fun u hu k hk => by
      by_cases e : u < t + 1
      · exact (congrFun (if_pos e) k).trans (hG u (by omega) k hk)
      · obtain rfl : u = t + 1 := by omega
        exact (congrFun (if_neg e) k).trans (if_pos hk)
    refine ⟨(t + 1, fun u => if u < t + 1 then G u else fun k => if k < capN s then levV (F (t + 1)) k else 0), [?_, ?_], ⟨by show t + 1 ≤ m; omega, hN⟩, by show m - (t + 1) < m - t; omega, ?_⟩
    rotate_left 2
    refine Sub.of ?_ ?_ ?_
    repeat' (first | (exact congrArg (fun g => AV.c (.sl 1 (capN s) (c1 g))) (if_neg (Nat.lt_irrefl (t + 1))).symm) | (refine And.intro ?_ ?_) | exact trivial | exact fun _ _ _ => hsc _ _ | (exact congrArg intV (by first | with_reducible rfl | with_reducible assumption)) | exact (rfl : AV.idsLt _ _ = true) | exact (rfl : _ = AV.ren _ (.own _)) | exact (rfl : _ = AV.ren _ (.fn _ _)) | exact (rfl : _ = AV.ren _ (.gh _)) | (exact congrArg intV (by assumption)) | (refine congrArg intV ((wr_id (by omega) (by omega)).trans (by omega))) | exact rfl | (simp only [Int.toNat_natCast, Int.toNat_zero, Nat.sub_zero, Nat.zero_add]; first | exact rfl | done) | exact all0 | exact fun h => Bool.noConfusion h | exact fun _ _ _ _ => rfl | omega)
    intro a ha b hb9
    have hb9 : b < 1 := hb9
    match b, hb9 with
    | 0, _ =>
      by_cases e : a < t + 1
      · refine (if_pos e).trans ?_
        show L.sl 1 (capN s) (c1 (G a)) = L.sl 1 (capN s) (c1 (if a < t + 1 then G a else fun k => if k < capN s then levV (F (t + 1)) k else 0))
        rw [if_pos e]
      · obtain rfl : a = t + 1 := by omega
        refine (if_neg e).trans ?_
        rw [Nat.sub_self]
        show L.sl 1 (capN s) (c1 fun k => if k < capN s then levV (F (t + 1)) k else 0) = L.sl 1 (capN s) (c1 (if t + 1 < t + 1 then G (t + 1) else fun k => if k < capN s then levV (F (t + 1)) k else 0))
        rw [if_neg e]
  refine sem_loop tab_ok gamSX_ok mixed (by kernel_rfl) (O := lex) (fun x : Nat × Int => ⟨[(2, .lp 0 0), (5, .c (.sl 1 (capN s) (c1 (G t)))), (7, .own 1), (9, intV (pr t)), (10, .own 2), (11, intV i), (12, intV (-s.D + x.1)), (33, .c (.sl 1 m (c1 pr))), (34, intV m), (35, intV t), (44, intV (capN s)), (45, intV i)], [.box [intV s.C, intV s.D, intV s.cap, intV s.beg, intV s.en], .row 29 1 (t + 1) false (lvF s G), .row 3 1 (capN s) false (c1 fun k => if k < i then levV (F (t + 1)) k else if k = i then x.2 else 0)]⟩) (fun x => -s.D + (x.1 : Int) ≤ s.C + 1 ∧ accI s (F t) (pr t) i x.1 x.2) (fun x => (s.C + s.D + 1 - x.1).toNat) ⟨(0, NEV), [?_, ?_, ?_], ⟨by show -s.D + ((0 : Nat) : Int) ≤ s.C + 1; omega, accI_zero _ _ _ _⟩, ?_⟩ fun z hz => ?_
  rotate_left 3
  · refine Sub.of ?_ ?_ ?_
    repeat' (first | (refine And.intro ?_ ?_) | exact trivial | exact fun _ _ _ => hsc _ _ | (exact congrArg intV (by first | with_reducible rfl | with_reducible assumption)) | exact (rfl : AV.idsLt _ _ = true) | exact (rfl : _ = AV.ren _ (.own _)) | exact (rfl : _ = AV.ren _ (.fn _ _)) | exact (rfl : _ = AV.ren _ (.gh _)) | (exact congrArg intV (by assumption)) | (refine congrArg intV ((wr_id (by omega) (by omega)).trans (by omega))) | exact rfl | (simp only [Int.toNat_natCast, Int.toNat_zero, Nat.sub_zero, Nat.zero_add]; first | exact rfl | done) | exact all0 | exact fun h => Bool.noConfusion h | exact fun _ _ _ _ => rfl | omega)
    · intro a ha b hb9
      match b, hb9 with
      | 0, _ =>
        by_cases e : a = i
        · refine (if_pos e).trans ((if_pos ⟨Nat.zero_le _, Nat.zero_lt_one⟩).trans (congrArg iL ?_))
          show NEV = if a < i then levV (F (t + 1)) a else if a = i then NEV else 0
          rw [if_neg (by omega), if_pos e]
        · refine (if_neg e).trans (congrArg iL ?_)
          show (if a < i then levV (F (t + 1)) a else 0) = if a < i then levV (F (t + 1)) a else if a = i then NEV else 0
          by_cases e2 : a < i
          · rw [if_pos e2, if_pos e2]
          · rw [if_neg e2, if_neg e2, if_neg e]
  obtain ⟨z, A⟩ := z
  obtain ⟨hz1, hz2⟩ := hz
  dsimp only at hz1 hz2 ⊢
  have wI : IntKind.i64.wrap ((i : Int) - (-s.D + z)) = (i : Int) - (-s.D + z) := wr_id (by omega) (by omega)
  conv => whnf
  repeat' (first
    | (refine NilG.mk fun bn hbn hbx => ?_; conv => whnf)
    | (refine Both.mk ?_ ?_ <;> conv => whnf)
    | exact trivial
    | (refine Br.mk (fun hb => ?_) (fun hb => ?_) <;> (first | (exfalso; revert hb; decide) | ((try simp only [BL] at hb) <;> (try simp only [DL] at hb) <;> (first | (exfalso; omega) | (conv => whnf)))))
    | (refine And.intro ?_ ?_; (focus (first | exact id | exact rfl | exact trivial | (intro hg; first | exact hg | exact rfl | (simp; done) | (simp at hg ⊢; assumption)) | omega | decide | exact is2_c _ _ _ | exact is1_c _ _ | exact isS_c _ _ | exact isB_c _ _ | exact Nat.le_refl _ | assumption | exact mulLe (by decide) (by omega) | exact mulLe2 (by decide) (by omega) (by omega) | (intros; simp only [BL] at *; omega) | (intros; (try simp only [BL] at *); (try simp only [DL] at *); omega) | (intros; simp only [BL] at *; rw [wr_id (by omega) (by omega)]; omega) | (intro h1 h2; exact Bool.and_eq_true_iff.2 ⟨h1, h2⟩) | first | exact ⟨rfl, by omega, by decide⟩ | (simp only [inB, BL] at *; omega) | (intros; simp_all; done))); conv => whnf)
    | (refine Or.inr (And.intro rfl ?_); first | (refine congrArg intV ?_) | (refine congrArg boolV ?_) | (refine tupII ?_ ?_) | (refine tupIII ?_ ?_ ?_) | (refine tupU ?_ ?_ ?_ ?_ ?_) | exact rfl))
  · rename_i hb0
    rw [wI] at hb
    have hGv := hGt ((i : Int) - (-s.D + z)).toNat (by omega)
    rw [show ((((i : Int) - (-s.D + z)).toNat : Nat) : Int) = (i : Int) - (-s.D + z) by omega] at hGv
    have hin : (F t).in ((i : Int) - (-s.D + z)) := (levV_lt hBt (by omega) _).1 (by have h2 := hb.2; rw [hGv] at h2; exact h2)
    have hv : G t ((i : Int) - (-s.D + z)).toNat = (F t).V ((i : Int) - (-s.D + z)) := hGv.trans (if_pos hin)
    have hpb := pr_bd hpt (d := -s.D + z) ⟨by omega, by omega⟩
    have hVb := hBt.2.2.2.2 _ hin
    have e1 : IntKind.i64.wrap (pr t * (-s.D + z)) = pr t * (-s.D + z) := wr_id (by omega) (by omega)
    have e2 : IntKind.i64.wrap (G t (IntKind.i64.wrap ((i : Int) - (-s.D + z))).toNat + IntKind.i64.wrap (pr t * (-s.D + z))) = (F t).V ((i : Int) - (-s.D + z)) + pr t * (-s.D + z) := by
      rw [wI, hv, e1]
      exact wr_id (by omega) (by omega)
    have e12 : IntKind.i64.wrap (-s.D + (z : Int) + 1) = -s.D + ((z + 1 : Nat) : Int) := (wr_id (by omega) (by omega)).trans (by omega)
    refine ⟨(z + 1, min A ((F t).V ((i : Int) - (-s.D + z)) + pr t * (-s.D + z))), [?_, ?_, ?_], ⟨by show -s.D + ((z + 1 : Nat) : Int) ≤ s.C + 1; omega, accI_yes hz2 hin⟩, by show (s.C + s.D + 1 - ((z + 1 : Nat) : Int)).toNat < (s.C + s.D + 1 - (z : Int)).toNat; omega, ?_⟩
    rotate_left 3
    refine Sub.of ?_ ?_ ?_
    repeat' (first | (refine And.intro ?_ ?_) | exact trivial | exact fun _ _ _ => hsc _ _ | (exact congrArg intV (by first | with_reducible rfl | with_reducible assumption)) | exact (rfl : AV.idsLt _ _ = true) | exact (rfl : _ = AV.ren _ (.own _)) | exact (rfl : _ = AV.ren _ (.fn _ _)) | exact (rfl : _ = AV.ren _ (.gh _)) | (exact congrArg intV (by assumption)) | (refine congrArg intV ((wr_id (by omega) (by omega)).trans (by omega))) | exact rfl | (simp only [Int.toNat_natCast, Int.toNat_zero, Nat.sub_zero, Nat.zero_add]; first | exact rfl | done) | exact all0 | exact fun h => Bool.noConfusion h | exact fun _ _ _ _ => rfl | omega)
    intro a ha b hb9
    match b, hb9 with
    | 0, _ =>
      by_cases e : a = i
      · refine (if_pos e).trans ((if_pos ⟨Nat.zero_le _, Nat.zero_lt_one⟩).trans (congrArg iL ?_))
        show min (if i < i then levV (F (t + 1)) i else if i = i then A else 0) (IntKind.i64.wrap (G t (IntKind.i64.wrap ((i : Int) - (-s.D + z))).toNat + IntKind.i64.wrap (pr t * (-s.D + z)))) = if a < i then levV (F (t + 1)) a else if a = i then min A ((F t).V ((i : Int) - (-s.D + z)) + pr t * (-s.D + z)) else 0
        rw [e2, if_neg (Nat.lt_irrefl i), if_pos rfl, if_neg (by omega), if_pos e]
      · refine (if_neg e).trans (congrArg iL ?_)
        show (if a < i then levV (F (t + 1)) a else if a = i then A else 0) = if a < i then levV (F (t + 1)) a else if a = i then min A ((F t).V ((i : Int) - (-s.D + z)) + pr t * (-s.D + z)) else 0
        rw [if_neg e, if_neg e]
  · rename_i hb0
    rw [wI] at hb
    have hn : ¬ (F t).in ((i : Int) - (-s.D + z)) := fun h => by
      have h1 := h.1
      have h2 := h.2
      have hGv := hGt ((i : Int) - (-s.D + z)).toNat (by omega)
      rw [show ((((i : Int) - (-s.D + z)).toNat : Nat) : Int) = (i : Int) - (-s.D + z) by omega] at hGv
      have h3 := (levV_lt hBt (by omega) _).2 h
      rw [← hGv] at h3
      unfold NEV at h3
      omega
    have e12 : IntKind.i64.wrap (-s.D + (z : Int) + 1) = -s.D + ((z + 1 : Nat) : Int) := (wr_id (by omega) (by omega)).trans (by omega)
    refine ⟨(z + 1, A), [?_, ?_, ?_], ⟨by show -s.D + ((z + 1 : Nat) : Int) ≤ s.C + 1; omega, accI_no hz2 hn⟩, by show (s.C + s.D + 1 - ((z + 1 : Nat) : Int)).toNat < (s.C + s.D + 1 - (z : Int)).toNat; omega, ?_⟩
    rotate_left 3
    refine Sub.of ?_ ?_ ?_
    repeat' (first | (refine And.intro ?_ ?_) | exact trivial | exact fun _ _ _ => hsc _ _ | (exact congrArg intV (by first | with_reducible rfl | with_reducible assumption)) | exact (rfl : AV.idsLt _ _ = true) | exact (rfl : _ = AV.ren _ (.own _)) | exact (rfl : _ = AV.ren _ (.fn _ _)) | exact (rfl : _ = AV.ren _ (.gh _)) | (exact congrArg intV (by assumption)) | (refine congrArg intV ((wr_id (by omega) (by omega)).trans (by omega))) | exact rfl | (simp only [Int.toNat_natCast, Int.toNat_zero, Nat.sub_zero, Nat.zero_add]; first | exact rfl | done) | exact all0 | exact fun h => Bool.noConfusion h | exact fun _ _ _ _ => rfl | omega)
  · rename_i hb0
    have hA : A = levV (F (t + 1)) i := accI_end hs (by omega) hBt hBn hRt (by omega) (by omega) (by omega) hz2 hz1
    have e45 : IntKind.i64.wrap ((i : Int) + 1) = ((i + 1 : Nat) : Int) := (wr_id (by omega) (by omega)).trans (by omega)
    refine ⟨i + 1, [?_, ?_, ?_], by omega, by omega, ?_⟩
    rotate_left 3
    refine Sub.of ?_ ?_ ?_
    repeat' (first | (refine And.intro ?_ ?_) | exact trivial | exact fun _ _ _ => hsc _ _ | (exact congrArg intV (by first | with_reducible rfl | with_reducible assumption)) | exact (rfl : AV.idsLt _ _ = true) | exact (rfl : _ = AV.ren _ (.own _)) | exact (rfl : _ = AV.ren _ (.fn _ _)) | exact (rfl : _ = AV.ren _ (.gh _)) | (exact congrArg intV (by assumption)) | (refine congrArg intV ((wr_id (by omega) (by omega)).trans (by omega))) | exact rfl | (simp only [Int.toNat_natCast, Int.toNat_zero, Nat.sub_zero, Nat.zero_add]; first | exact rfl | done) | exact all0 | exact fun h => Bool.noConfusion h | exact fun _ _ _ _ => rfl | omega)
    intro a ha b hb9
    match b, hb9 with
    | 0, _ =>
      refine congrArg iL ?_
      show (if a < i then levV (F (t + 1)) a else if a = i then A else 0) = if a < i + 1 then levV (F (t + 1)) a else 0
      by_cases e : a < i
      · rw [if_pos e, if_pos (by omega)]
      · by_cases e2 : a = i
        · rw [if_neg e, if_pos e2, if_pos (by omega), hA, e2]
        · rw [if_neg e, if_neg e2, if_neg (by omega)]
end Go.Proofs.Ytkkkldhilofgmaa

namespace Go.Proofs.Ytkkkldhilofgmaa
open Go.RowKit Go.ChangeShapes Go.WideShapes

theorem stErr (s : Sto) (m : Nat) (pr : Nat → Int) (hm : m ≤ maxLen) : Fn1 Try.prog 25 [sV s, .c (.sl 1 m (c1 pr))] (intV (stoE s m pr)) := by
  refine fn_of_wpx (O := lex) tab_ok gamSX_ok mixed Try.func25 (by kernel_rfl) rfl rfl rfl (by simp [Try.ntmps25]) (by kernel_rfl) ?_
  have hm' : m ≤ 9223372036854775807 := hm
  conv => whnf
  repeat' (first
    | (refine NilG.mk fun bn hbn hbx => ?_; conv => whnf)
    | (refine Both.mk ?_ ?_ <;> conv => whnf)
    | exact trivial
    | (refine Br.mk (fun hb => ?_) (fun hb => ?_) <;> (first | (exfalso; revert hb; decide) | ((try simp only [BL] at hb) <;> (try simp only [DL] at hb) <;> conv => whnf)))
    | (refine And.intro ?_ ?_; (focus (first | exact id | exact rfl | exact trivial | (intro hg; first | exact hg | exact rfl | (simp; done) | (simp at hg ⊢; assumption)) | omega | decide | exact is2_c _ _ _ | exact is1_c _ _ | exact isS_c _ _ | exact isB_c _ _ | exact Nat.le_refl _ | assumption | exact mulLe (by decide) (by omega) | exact mulLe2 (by decide) (by omega) (by omega) | (intros; simp only [BL] at *; omega) | (intros; (try simp only [BL] at *); (try simp only [DL] at *); omega) | (intros; simp only [BL] at *; rw [wr_id (by omega) (by omega)]; omega) | (intro h1 h2; exact Bool.and_eq_true_iff.2 ⟨h1, h2⟩) | (intros; simp_all; done))); conv => whnf)
    | (refine Or.inr (And.intro rfl ?_); first | (refine congrArg intV ?_) | (refine congrArg boolV ?_) | (refine tupII ?_ ?_) | (refine tupIII ?_ ?_ ?_) | (refine tupU ?_ ?_ ?_ ?_ ?_) | exact rfl))
  · have hn : ¬ stOk s := fun h => by
      unfold stOk at h
      omega
    unfold stoE
    rw [if_pos hn]
  · rename_i h0
    have hs : stOk s := by
      unfold stOk
      omega
    unfold stoE
    rw [if_neg (fun h => h hs), if_pos (by omega)]
  rename_i h0
  have hs : stOk s := by
    unfold stOk
    omega
  have hv : ∀ k, (if -1000000 ≤ pr k ∧ pr k ≤ 1000000 then (0 : Int) else 4) = 0 ∨ (if -1000000 ≤ pr k ∧ pr k ≤ 1000000 then (0 : Int) else 4) = 4 := fun k => by split <;> simp
  refine sem_loop tab_ok gamSX_ok mixed (by kernel_rfl) (O := lex) (fun i : Nat => ⟨[(42, .c (.sl 1 m (c1 pr))), (43, intV m), (44, intV i)], []⟩) (fun i => i ≤ m ∧ ∀ k, k < i → -1000000 ≤ pr k ∧ pr k ≤ 1000000) (fun i => m - i) ⟨0, [], ⟨Nat.zero_le _, fun k hk => absurd hk (Nat.not_lt_zero _)⟩, ?_⟩ fun i hi => ?_
  · refine Sub.of ?_ ?_ ?_
    repeat' (first | (refine And.intro ?_ ?_) | exact trivial | exact fun _ _ _ => hsc _ _ | (exact congrArg intV (by first | with_reducible rfl | with_reducible assumption)) | exact (rfl : AV.idsLt _ _ = true) | exact (rfl : _ = AV.ren _ (.own _)) | exact (rfl : _ = AV.ren _ (.fn _ _)) | exact (rfl : _ = AV.ren _ (.gh _)) | (exact congrArg intV (by assumption)) | (refine congrArg intV ((wr_id (by omega) (by omega)).trans (by omega))) | exact rfl | (simp only [Int.toNat_natCast, Int.toNat_zero, Nat.sub_zero, Nat.zero_add]; first | exact rfl | done) | exact all0 | exact fun h => Bool.noConfusion h | exact fun _ _ _ _ => rfl | omega)
  conv => whnf
  repeat' (first
    | (refine NilG.mk fun bn hbn hbx => ?_; conv => whnf)
    | (refine Both.mk ?_ ?_ <;> conv => whnf)
    | exact trivial
    | (refine Br.mk (fun hb => ?_) (fun hb => ?_) <;> (first | (exfalso; revert hb; decide) | ((try simp only [BL] at hb) <;> (try simp only [DL] at hb) <;> conv => whnf)))
    | (refine And.intro ?_ ?_; (focus (first | exact id | exact rfl | exact trivial | (intro hg; first | exact hg | exact rfl | (simp; done) | (simp at hg ⊢; assumption)) | omega | decide | exact is2_c _ _ _ | exact is1_c _ _ | exact isS_c _ _ | exact isB_c _ _ | exact Nat.le_refl _ | assumption | exact mulLe (by decide) (by omega) | exact mulLe2 (by decide) (by omega) (by omega) | (intros; simp only [BL] at *; omega) | (intros; (try simp only [BL] at *); (try simp only [DL] at *); omega) | (intros; simp only [BL] at *; rw [wr_id (by omega) (by omega)]; omega) | (intro h1 h2; exact Bool.and_eq_true_iff.2 ⟨h1, h2⟩) | (intros; simp_all; done))); conv => whnf)
    | (refine Or.inr (And.intro rfl ?_); first | (refine congrArg intV ?_) | (refine congrArg boolV ?_) | (refine tupII ?_ ?_) | (refine tupIII ?_ ?_ ?_) | (refine tupU ?_ ?_ ?_ ?_ ?_) | exact rfl))
  · unfold stoE
    rw [if_neg (fun h => h hs), if_neg (by omega)]
    exact (stoE_bad.fst_val4 (by decide) hv (j := i) (if_neg (by omega)) (by omega)).symm
  · refine ⟨i + 1, [], ⟨by omega, fun k hk => by
          rcases Nat.lt_succ_iff_lt_or_eq.1 hk with h | rfl
          · exact hi.2 k h
          · omega⟩, by omega, ?_⟩
    refine Sub.of ?_ ?_ ?_
    repeat' (first | (refine And.intro ?_ ?_) | exact trivial | exact fun _ _ _ => hsc _ _ | (exact congrArg intV (by first | with_reducible rfl | with_reducible assumption)) | exact (rfl : AV.idsLt _ _ = true) | exact (rfl : _ = AV.ren _ (.own _)) | exact (rfl : _ = AV.ren _ (.fn _ _)) | exact (rfl : _ = AV.ren _ (.gh _)) | (exact congrArg intV (by assumption)) | (refine congrArg intV ((wr_id (by omega) (by omega)).trans (by omega))) | exact rfl | (simp only [Int.toNat_natCast, Int.toNat_zero, Nat.sub_zero, Nat.zero_add]; first | exact rfl | done) | exact all0 | exact fun h => Bool.noConfusion h | exact fun _ _ _ _ => rfl | omega)
  · obtain rfl : i = m := by omega
    unfold stoE
    rw [if_neg (fun h => h hs), if_neg (by omega)]
    exact (fst_of fun k hk => if_pos (hi.2 k hk)).symm

/-- the chain of costs is one -/
theorem ch_eq {s : Sto} {m : Nat} {pr : Nat → Int} {F F' : Nat → Cxt} (h : stCh s m pr F) (h' : stCh s m pr F') : ∀ t, t ≤ m → (F t).lo = (F' t).lo ∧ (F t).hi = (F' t).hi ∧ ∀ k, (F t).in k → (F t).V k = (F' t).V k
  | 0, _ => by rw [h.1, h'.1]; exact ⟨rfl, rfl, fun _ _ => rfl⟩
  | t + 1, ht => by
    obtain ⟨e1, e2, e3⟩ := ch_eq h h' t (by omega)
    obtain ⟨-, a2, a3, -, a5⟩ := h.2.1 t (by omega)
    obtain ⟨-, b2, b3, -, b5⟩ := h'.2.1 t (by omega)
    have g1 : (F (t + 1)).lo = (F' (t + 1)).lo := by rw [a2, b2, e1]
    have g2 : (F (t + 1)).hi = (F' (t + 1)).hi := by rw [a3, b3, e2]
    refine ⟨g1, g2, fun k hk => ?_⟩
    have hk' : (F' (t + 1)).in k := ⟨by rw [← g1]; exact hk.1, by rw [← g2]; exact hk.2⟩
    have hin : ∀ b, (F t).in b → (F' t).in b := fun b hb => ⟨by rw [← e1]; exact hb.1, by rw [← e2]; exact hb.2⟩
    have hin' : ∀ b, (F' t).in b → (F t).in b := fun b hb => ⟨by rw [e1]; exact hb.1, by rw [e2]; exact hb.2⟩
    obtain ⟨c1, b, c2, c3, c4, c5⟩ := a5 k hk
    obtain ⟨d1, b', d2, d3, d4, d5⟩ := b5 k hk'
    have x1 := c1 b' (hin' _ d2) d3 d4
    have x2 := d1 b (hin _ c2) c3 c4
    rw [e3 b' (hin' _ d2)] at x1
    rw [← e3 b c2] at x2
    omega
/-- the level before costs what is left -/
theorem lv_eq {s : Sto} {pr : Int} {f g : Cxt} {b k : Int} (hR : stR s pr f g) (hk : g.in k) (hl : stLast s pr f b k) : g.V k = f.V b + pr * (k - b) := by
  obtain ⟨h1, b', h2, h3, h4, h5⟩ := hR.2.2.2.2 k hk
  have := h1 b hl.1 hl.2.1 hl.2.2.1
  have := (hl.2.2.2 b' h2 h3 h4).1
  omega
/-- the first one of the least costs is one -/
theorem end_one {s : Sto} {f : Cxt} {k k' : Int} (h : stEnd s f k) (h' : stEnd s f k') : k = k' := by
  have a := h.2.2 k' h'.1 h'.2.1
  have b := h'.2.2 k h.1 h.2.1
  rcases Int.lt_trichotomy k k' with e | e | e
  · have := b.2 e; omega
  · exact e
  · have := a.2 e; omega
def exS : Sto := ⟨10, 10, 10, 0, 0⟩
def exP : Nat → Int := fun k => if k = 0 then 2 else 5
theorem exE : stoE exS 2 exP = 0 := by decide
theorem ex_law {F : Nat → Cxt} {lv : Nat → Int} (h : stCh exS 2 exP F) (he : stEnd exS (F 2) (lv 2)) (hl : ∀ t, t < 2 → stLast exS (exP t) (F t) (lv t) (lv (t + 1))) : lv 0 = 0 ∧ lv 1 = 10 ∧ lv 2 = 0 ∧ (F 2).V (lv 2) = -30 := by
  have hs : stOk exS := by decide
  obtain ⟨b1, b2, b3, b4⟩ := begC_B hs
  have e0 := h.1
  have hV0 : (F 0).V 0 = 0 := by rw [e0]; exact b4
  have hlo0 : (F 0).lo = 0 := by rw [e0]; exact b2
  have hhi0 : (F 0).hi = 0 := by rw [e0]; exact b3
  obtain ⟨-, p2, p3, -, p5⟩ := h.2.1 0 (by omega)
  obtain ⟨-, q2, q3, -, q5⟩ := h.2.1 1 (by omega)
  have l1 : (F 1).lo = 0 := by rw [p2, hlo0]; decide
  have u1 : (F 1).hi = 10 := by rw [p3, hhi0]; decide
  have l2 : (F 2).lo = 0 := by rw [q2, l1]; decide
  have u2 : (F 2).hi = 10 := by rw [q3, u1]; decide
  have hV1 : ∀ k, 0 ≤ k → k ≤ 10 → (F 1).V k = 2 * k := fun k h1 h2 => by
    obtain ⟨-, b, c1, -, -, c4⟩ := p5 k ⟨by rw [l1]; exact h1, by rw [u1]; exact h2⟩
    obtain rfl : b = 0 := by
      have h1 := c1.1
      have h2 := c1.2
      rw [hlo0] at h1
      rw [hhi0] at h2
      omega
    have c4 : (F (0 + 1)).V k = (F 0).V 0 + 2 * (k - 0) := c4
    rw [hV0] at c4
    have c4 : (F 1).V k = 0 + 2 * (k - 0) := c4
    omega
  have hD : exS.D = 10 := rfl
  have hC : exS.C = 10 := rfl
  have hen : exS.en = 0 := rfl
  have k1 := he.1.1
  have k2 := he.1.2
  rw [l2] at k1
  rw [u2] at k2
  -- the cost at 0 is at most -30
  have z1 := (q5 0 ⟨by rw [l2]; decide, by rw [u2]; decide⟩).1 10 ⟨by rw [l1]; decide, by rw [u1]; decide⟩ (by rw [hD]; decide) (by rw [hC]; decide)
  have z1 : (F 2).V 0 ≤ (F 1).V 10 + 5 * (0 - 10) := z1
  rw [hV1 10 (by decide) (by decide)] at z1
  obtain ⟨-, b, c1, c2, c3, c4⟩ := q5 (lv 2) ⟨by rw [l2]; exact k1, by rw [u2]; exact k2⟩
  have cb1 := c1.1
  have cb2 := c1.2
  rw [l1] at cb1
  rw [u1] at cb2
  have c4 : (F 2).V (lv 2) = (F 1).V b + 5 * (lv 2 - b) := c4
  rw [hV1 b cb1 cb2] at c4
  have z2 := (he.2.2 0 ⟨by rw [l2]; decide, by rw [u2]; decide⟩ (by rw [hen]; decide)).1
  have g2 : lv 2 = 0 := by omega
  have g3 : (F 2).V (lv 2) = -30 := by rw [g2] at c4 z2 ⊢; omega
  obtain ⟨m1, m2, m3, m4⟩ := hl 1 (by omega)
  have m11 := m1.1
  have m12 := m1.2
  rw [l1] at m11
  rw [u1] at m12
  have g2' : lv (1 + 1) = 0 := g2
  have m5 := (m4 10 ⟨by rw [l1]; decide, by rw [u1]; decide⟩ (by rw [hD, g2']; decide) (by rw [hC, g2']; decide)).1
  have m5 : (F 1).V (lv 1) + 5 * (lv 2 - lv 1) ≤ (F 1).V 10 + 5 * (lv 2 - 10) := m5
  rw [hV1 _ m11 m12, hV1 10 (by decide) (by decide)] at m5
  have g1 : lv 1 = 10 := by omega
  obtain ⟨n1, -, -, -⟩ := hl 0 (by omega)
  have n11 := n1.1
  have n12 := n1.2
  rw [hlo0] at n11
  rw [hhi0] at n12
  exact ⟨by omega, g1, g2, g3⟩
theorem sameI3 (n m : Nat) (x y : Nat → Int) (h : n ≤ 1000000 ∧ m = n ∧ ∀ i, i < n → x i = y i) : Fn1 Try.prog 23 [.c (.sl 1 n (c1 x)), .c (.sl 1 m (c1 y))] (boolV true) := by
  refine fn_of_wpx (O := lex) tab_ok gamSX_ok mixed Try.func23 (by kernel_rfl) rfl rfl rfl (by simp [Try.ntmps23]) (by kernel_rfl) ?_
  obtain ⟨hn, rfl, h⟩ := h
  conv => whnf
  repeat' (first
    | (refine NilG.mk fun bn hbn hbx => ?_; conv => whnf)
    | (refine Both.mk ?_ ?_ <;> conv => whnf)
    | exact trivial
    | (refine Br.mk (fun hb => ?_) (fun hb => ?_) <;> (first | (exfalso; revert hb; decide) | ((try simp only [BL] at hb) <;> (try simp only [DL] at hb) <;> conv => whnf)))
    | (refine And.intro ?_ ?_; (focus (first | exact id | exact rfl | exact trivial | (intro hg; first | exact hg | exact rfl | (simp; done) | (simp at hg ⊢; assumption)) | omega | decide | exact is2_c _ _ _ | exact is1_c _ _ | exact isS_c _ _ | exact isB_c _ _ | exact Nat.le_refl _ | assumption | exact mulLe (by decide) (by omega) | exact mulLe2 (by decide) (by omega) (by omega) | (intros; simp only [BL] at *; omega) | (intros; (try simp only [BL] at *); (try simp only [DL] at *); omega) | (intros; simp only [BL] at *; rw [wr_id (by omega) (by omega)]; omega) | (intro h1 h2; exact Bool.and_eq_true_iff.2 ⟨h1, h2⟩) | (intros; simp_all; done))); conv => whnf)
    | (refine Or.inr (And.intro rfl ?_); first | (refine congrArg intV ?_) | (refine congrArg boolV ?_) | (refine tupII ?_ ?_) | (refine tupIII ?_ ?_ ?_) | (refine tupU ?_ ?_ ?_ ?_ ?_) | exact rfl))
  · exact absurd trivial hb
  refine sem_loop tab_ok gamSX_ok mixed (by kernel_rfl) (O := lex) (fun i : Nat => ⟨[(0, .c (.sl 1 m (c1 x))), (1, .c (.sl 1 m (c1 y))), (12, intV m), (13, intV i)], []⟩) (fun i => i ≤ m) (fun i => m - i) ⟨0, [], Nat.zero_le _, ?_⟩ fun i hi => ?_
  · refine Sub.of ?_ ?_ ?_
    repeat' (first | (refine And.intro ?_ ?_) | exact trivial | exact fun _ _ _ => hsc _ _ | (exact congrArg intV (by first | with_reducible rfl | with_reducible assumption)) | exact (rfl : AV.idsLt _ _ = true) | exact (rfl : _ = AV.ren _ (.own _)) | exact (rfl : _ = AV.ren _ (.fn _ _)) | exact (rfl : _ = AV.ren _ (.gh _)) | (exact congrArg intV (by assumption)) | (refine congrArg intV ((wr_id (by omega) (by omega)).trans (by omega))) | exact rfl | (simp only [Int.toNat_natCast, Int.toNat_zero, Nat.sub_zero, Nat.zero_add]; first | exact rfl | done) | exact all0 | exact fun h => Bool.noConfusion h | exact fun _ _ _ _ => rfl | omega)
  conv => whnf
  repeat' (first
    | (refine NilG.mk fun bn hbn hbx => ?_; conv => whnf)
    | (refine Both.mk ?_ ?_ <;> conv => whnf)
    | exact trivial
    | (refine Br.mk (fun hb => ?_) (fun hb => ?_) <;> (first | (exfalso; revert hb; decide) | ((try simp only [BL] at hb) <;> (try simp only [DL] at hb) <;> conv => whnf)))
    | (refine And.intro ?_ ?_; (focus (first | exact id | exact rfl | exact trivial | (intro hg; first | exact hg | exact rfl | (simp; done) | (simp at hg ⊢; assumption)) | omega | decide | exact is2_c _ _ _ | exact is1_c _ _ | exact isS_c _ _ | exact isB_c _ _ | exact Nat.le_refl _ | assumption | exact mulLe (by decide) (by omega) | exact mulLe2 (by decide) (by omega) (by omega) | (intros; simp only [BL] at *; omega) | (intros; (try simp only [BL] at *); (try simp only [DL] at *); omega) | (intros; simp only [BL] at *; rw [wr_id (by omega) (by omega)]; omega) | (intro h1 h2; exact Bool.and_eq_true_iff.2 ⟨h1, h2⟩) | (intros; simp_all; done))); conv => whnf)
    | (refine Or.inr (And.intro rfl ?_); first | (refine congrArg intV ?_) | (refine congrArg boolV ?_) | (refine tupII ?_ ?_) | (refine tupIII ?_ ?_ ?_) | (refine tupU ?_ ?_ ?_ ?_ ?_) | exact rfl))
  · exact absurd (h i (by omega)) hb
  · refine ⟨i + 1, [], by omega, by omega, ?_⟩
    refine Sub.of ?_ ?_ ?_
    repeat' (first | (refine And.intro ?_ ?_) | exact trivial | exact fun _ _ _ => hsc _ _ | (exact congrArg intV (by first | with_reducible rfl | with_reducible assumption)) | exact (rfl : AV.idsLt _ _ = true) | exact (rfl : _ = AV.ren _ (.own _)) | exact (rfl : _ = AV.ren _ (.fn _ _)) | exact (rfl : _ = AV.ren _ (.gh _)) | (exact congrArg intV (by assumption)) | (refine congrArg intV ((wr_id (by omega) (by omega)).trans (by omega))) | exact rfl | (simp only [Int.toNat_natCast, Int.toNat_zero, Nat.sub_zero, Nat.zero_add]; first | exact rfl | done) | exact all0 | exact fun h => Bool.noConfusion h | exact fun _ _ _ _ => rfl | omega)
  · rfl
def sI2 : List AV → Sd × AV
  | [.c (.sl 1 n f), .c (.sl 1 m g)] => (.p (is1 n f ∧ is1 m g ∧ n ≤ 1000000 ∧ m = n ∧ ∀ i, i < n → d0 f i = d0 g i), boolV true)
  | _ => (.p False, .top)
def gamSY : Gam := fun f => match f with
  | 27 => some (s3 inB)
  | 25 => some (sSt2 fun s m pr => intV (stoE s m pr))
  | 23 => some sI2
  | 21 => some sSV
  | _ => none
theorem gamSY_ok : GOk Try.prog gamSY := fun f g h => by
  unfold gamSY at h
  split at h
  · injection h with h; subst h; exact s3_ok in3
  · injection h with h; subst h
    intro args hs _
    unfold sSt2 at hs ⊢
    split at hs
    · exact (stErr ⟨_, _, _, _, _⟩ _ _ hs.2).le (Le.cons (Le1.refl _) (Le.cons (Le1.sl hs.1) Le.nil))
    · exact hs.elim
  · injection h with h; subst h
    intro args hs _
    unfold sI2 at hs ⊢
    split at hs
    · exact (sameI3 _ _ _ _ hs.2.2).le (Le.cons (Le1.sl hs.1) (Le.cons (Le1.sl hs.2.1) Le.nil))
    · exact hs.elim
  · injection h with h; subst h
    intro args hs _
    unfold sSV at hs ⊢
    split at hs
    · exact (sameVals _ _ _ _ _ _ _ _ hs.2.2.1 hs.2.2.2.1 hs.2.2.2.2.1 hs.2.2.2.2.2).le (Le.cons (cxV_le hs.1) (Le.cons (Le1.refl _) (Le.cons (Le1.sl hs.2.1) Le.nil)))
    · exact hs.elim
  · cases h
/-- a fact that is kept, so that it does not come in the way -/
theorem exBest : Fn Try.prog 22 [sV exS, .c (.sl 1 2 (c1 exP))] (fun obs r => obs = [] ∧ r = .tup [.c (.sl 1 2 (c1 fun t => if t = 0 then 10 else -10)), intV (-30), intV 0]) := by
  refine (stBest exS 2 exP (by decide)).res fun obs r hr => ?_
  obtain ⟨rfl, hr⟩ := hr
  rcases hr with ⟨h, -⟩ | ⟨-, F, hc, h | ⟨-, lv, he, hl, rfl⟩⟩
  · exact absurd exE h
  · have hB := hc.2.2 2 (Nat.le_refl 2)
    have h1 := Cxt.le hB.1
    have h2 := hB.2.1
    have h3 := h.1
    have : exS.en = 0 := rfl
    omega
  · obtain ⟨a0, a1, a2, a3⟩ := ex_law hc he hl
    refine ⟨_, ⟨rfl, rfl⟩, Le1.tup (Le.cons (Le1.sl fun k hk j hj => ?_) (Le.cons (Le1.of_eq (congrArg intV a3)) (Le.cons (Le1.refl _) Le.nil)))⟩
    match k, j, hk, hj with
    | 0, 0, _, _ => exact congrArg iL (by show lv (0 + 1) - lv 0 = 10; have : lv (0 + 1) = lv 1 := rfl; omega)
    | 1, 0, _, _ => exact congrArg iL (by show lv (1 + 1) - lv 1 = -10; have : lv (1 + 1) = lv 2 := rfl; omega)
def best2 (s : Sto) (m : Nat) (pr : Nat → Int) (obs : List OB) (r : AV) : Prop := obs = [] ∧ ∃ (k : Nat) (fl : Nat → Int) (c e : Int), r = .tup [.c (.sl 1 k (c1 fl)), intV c, intV e] ∧
  ((stoE s m pr ≠ 0 ∧ k = 0 ∧ c = 0 ∧ e = stoE s m pr) ∨ (stoE s m pr = 0 ∧ ∃ F, stCh s m pr F ∧ (((F m).hi < s.en ∧ k = 0 ∧ c = 0 ∧ e = 8) ∨
    (s.en ≤ (F m).hi ∧ k = m ∧ e = 0 ∧ ∃ lv : Nat → Int, stEnd s (F m) (lv m) ∧ (∀ t, t < m → stLast s (pr t) (F t) (lv t) (lv (t + 1))) ∧ (∀ t, fl t = lv (t + 1) - lv t) ∧ c = (F m).V (lv m)))))
theorem stBest2 (s : Sto) (m : Nat) (pr : Nat → Int) (hm : m ≤ maxLen) : Fn Try.prog 22 [sV s, .c (.sl 1 m (c1 pr))] (best2 s m pr) := by
  refine (stBest s m pr hm).res fun obs r hr => ?_
  obtain ⟨rfl, hr⟩ := hr
  rcases hr with ⟨h, rfl⟩ | ⟨h0, F, hc, ⟨h, rfl⟩ | ⟨h, lv, he, hl, rfl⟩⟩
  · exact ⟨_, ⟨rfl, 0, fun _ => 0, 0, _, rfl, .inl ⟨h, rfl, rfl, rfl⟩⟩, Le1.tup (Le.cons Le1.nil (Le.cons (Le1.refl _) (Le.cons (Le1.refl _) Le.nil)))⟩
  · exact ⟨_, ⟨rfl, 0, fun _ => 0, 0, 8, rfl, .inr ⟨h0, F, hc, .inl ⟨h, rfl, rfl, rfl⟩⟩⟩, Le1.tup (Le.cons Le1.nil (Le.cons (Le1.refl _) (Le.cons (Le1.refl _) Le.nil)))⟩
  · exact ⟨_, ⟨rfl, m, _, _, 0, rfl, .inr ⟨h0, F, hc, .inr ⟨h, rfl, rfl, lv, he, hl, fun t => rfl, rfl⟩⟩⟩, Le1.refl _⟩
def val2 (s : Sto) (m : Nat) (pr : Nat → Int) (obs : List OB) (r : AV) : Prop := obs = [] ∧ ∃ (f : Cxt) (e : Int), r = .tup [f.av, intV e] ∧ ((stoE s m pr ≠ 0 ∧ f.n = 0 ∧ e = stoE s m pr) ∨ (stoE s m pr = 0 ∧ e = 0 ∧ ∃ F, stCh s m pr F ∧ f = F m))
theorem stValue2 (s : Sto) (m : Nat) (pr : Nat → Int) (hm : m ≤ maxLen) : Fn Try.prog 24 [sV s, .c (.sl 1 m (c1 pr))] (val2 s m pr) := by
  refine (stValue s m pr hm).res fun obs r hr => ?_
  obtain ⟨rfl, hr⟩ := hr
  rcases hr with ⟨h, rfl⟩ | ⟨h0, F, hc, rfl⟩
  · exact ⟨_, ⟨rfl, ⟨0, 0, 0, fun _ => 0, fun _ => 0⟩, _, rfl, .inl ⟨h, rfl, rfl⟩⟩, Le1.tup (Le.cons (Le1.agg (Le.cons (Le1.refl _) (Le.cons (Le1.refl _) (Le.cons Le1.nil Le.nil)))) (Le.cons (Le1.refl _) Le.nil))⟩
  · exact ⟨_, ⟨rfl, F m, 0, rfl, .inr ⟨h0, rfl, F, hc, rfl⟩⟩, Le1.refl _⟩
/-- the search for the first least level at the end -/
def stSrch (s : Sto) (f : Cxt) (z : Nat) (b : Int) : Prop := (b = -1 ∧ ∀ y, f.in y → s.en ≤ y → s.en + z ≤ y) ∨ (0 ≤ b ∧ f.in b ∧ s.en ≤ b ∧ b < s.en + z ∧ ∀ y, f.in y → s.en ≤ y → y < s.en + z → f.V b ≤ f.V y ∧ (y < b → f.V b < f.V y))
theorem srch_yes {s : Sto} {f : Cxt} {z : Nat} {b : Int} (h : stSrch s f z b) (h0 : 0 ≤ s.en) (h1 : f.in (s.en + z)) (h2 : b < 0 ∨ f.V (s.en + z) < f.V b) : stSrch s f (z + 1) (s.en + z) := by
  refine .inr ⟨by omega, h1, by omega, by omega, fun y hy h3 h4 => ?_⟩
  by_cases e : y = s.en + z
  · rw [e]; exact ⟨Int.le_refl _, fun h => absurd h (Int.lt_irrefl _)⟩
  · rcases h with ⟨-, h⟩ | ⟨g0, g1, g2, g3, g4⟩
    · have := h y hy h3; omega
    · have := g4 y hy h3 (by omega)
      omega
theorem srch_no {s : Sto} {f : Cxt} {z : Nat} {b : Int} (h : stSrch s f z b) (h0 : 0 ≤ s.en) (h2 : ¬ f.in (s.en + z) ∨ (¬ b < 0 ∧ ¬ f.V (s.en + z) < f.V b)) : stSrch s f (z + 1) b := by
  rcases h with ⟨e, h⟩ | ⟨g0, g1, g2, g3, g4⟩
  · refine .inl ⟨e, fun y hy h3 => ?_⟩
    have := h y hy h3
    by_cases e2 : y = s.en + z
    · rcases h2 with h2 | h2
      · rw [e2] at hy; exact absurd hy h2
      · omega
    · omega
  · refine .inr ⟨g0, g1, g2, by omega, fun y hy h3 h4 => ?_⟩
    by_cases e2 : y = s.en + z
    · rcases h2 with h2 | h2
      · rw [e2] at hy; exact absurd hy h2
      · rw [e2]; exact ⟨by omega, fun h => by omega⟩
    · exact g4 y hy h3 (by omega)
end Go.Proofs.Ytkkkldhilofgmaa
