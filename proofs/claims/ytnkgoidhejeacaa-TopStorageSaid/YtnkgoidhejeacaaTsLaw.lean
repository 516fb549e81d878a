/-
  TopStorage holds: a storage that need not be fuller at the end never loses money, and one more trade never earns less, whatever the input.
-/
import Derived.Test.YtnkgoidhejeacaaStoE
import Derived.Test.YtnkgoidhejeacaaVmS
namespace Go.Proofs.Ytnkgoidhejeacaa
open Go.RowKit Go.ChangeShapes Go.WideShapes

/-- the level may stay as it is, for nothing -/
theorem stay {s : Sto} {m : Nat} {pr : Nat → Int} {F : Nat → Cxt} (hs : stOk s) (h : stCh s m pr F) : ∀ t, t ≤ m → (F t).in s.beg ∧ (F t).V s.beg ≤ 0
  | 0, _ => by
    obtain ⟨b1, b2, b3, b4⟩ := begC_B hs
    rw [h.1]
    exact ⟨⟨by rw [b2]; exact Int.le_refl _, by rw [b3]; exact Int.le_refl _⟩, by rw [b4]; exact Int.le_refl _⟩
  | t + 1, ht => by
    obtain ⟨⟨h1, h2⟩, h3⟩ := stay hs h t (by omega)
    obtain ⟨-, a2, a3, -, a5⟩ := h.2.1 t (by omega)
    unfold stOk at hs
    have hin : (F (t + 1)).in s.beg := ⟨by rw [a2]; omega, by rw [a3]; omega⟩
    have h4 := (a5 _ hin).1 s.beg ⟨h1, h2⟩ (by omega) (by omega)
    rw [Int.sub_self, Int.mul_zero] at h4
    exact ⟨hin, by omega⟩
theorem top_n {s : Sto} {m : Nat} {pr : Nat → Int} {F : Nat → Cxt} {k : Int} (hs : stOk s) (h : stCh s m pr F) (he : stEnd s (F m) k) (hb : s.en ≤ s.beg) : (F m).V k ≤ 0 := by
  obtain ⟨h1, h2⟩ := stay hs h m (Nat.le_refl m)
  have := (he.2.2 s.beg h1 hb).1
  omega
theorem top_m {s : Sto} {m : Nat} {pr pr' : Nat → Int} {F F' : Nat → Cxt} {k k' : Int} (hs : stOk s) (hp : ∀ t, t < m → pr' t = pr t) (h : stCh s m pr F) (h' : stCh s (m + 1) pr' F') (he : stEnd s (F m) k) (he' : stEnd s (F' (m + 1)) k') : (F' (m + 1)).V k' ≤ (F m).V k := by
  have h9 : stCh s m pr F' := ⟨h'.1, fun t ht => by rw [← hp t ht]; exact h'.2.1 t (by omega), fun t ht => h'.2.2 t (by omega)⟩
  obtain ⟨e1, e2, e3⟩ := ch_eq h h9 m (Nat.le_refl m)
  obtain ⟨-, a2, a3, -, a5⟩ := h'.2.1 m (by omega)
  have hB := h.2.2 m (Nat.le_refl m)
  have b1 := hB.2.1
  have b2 := hB.2.2.1
  have k1 := he.1.1
  have k2 := he.1.2
  unfold stOk at hs
  have hk : (F' m).in k := ⟨by rw [← e1]; exact k1, by rw [← e2]; exact k2⟩
  have hin : (F' (m + 1)).in k := ⟨by rw [a2, ← e1]; omega, by rw [a3, ← e2]; omega⟩
  have h4 := (a5 _ hin).1 k hk (by omega) (by omega)
  rw [Int.sub_self, Int.mul_zero, ← e3 k he.1] at h4
  have h5 := (he'.2.2 k hin he.2.1).1
  omega
/-- what the law says of both results -/
theorem top_law {s : Sto} {m : Nat} {pr pr' : Nat → Int} {k k' : Nat} {fl fl' : Nat → Int} {c c' e e' : Int} (hb : ¬ s.en > s.beg) (hp : ∀ t, t < m → pr' t = pr t)
    (h : best3 s m pr k fl c e) (h' : best3 s (m + 1) pr' k' fl' c' e') : e ≠ 0 ∨ (c ≤ 0 ∧ (e' ≠ 0 ∨ c' ≤ c)) := by
  rcases h with ⟨h0, -, -, rfl⟩ | ⟨h0, F, hc, ⟨-, -, -, rfl⟩ | ⟨-, -, -, lv, he, -, -, rfl⟩⟩
  · exact .inl h0
  · exact .inl (by decide)
  obtain ⟨hs, -, -⟩ := stoE_zero h0
  refine .inr ⟨top_n hs hc he (by omega), ?_⟩
  rcases h' with ⟨h0', -, -, rfl⟩ | ⟨h0', F', hc', ⟨-, -, -, rfl⟩ | ⟨-, -, -, lv', he', -, -, rfl⟩⟩
  · exact .inl h0'
  · exact .inl (by decide)
  · exact .inr (top_m hs hp hc hc' he he')
theorem cloneW (n : Nat) (x : Nat → Int) (hn : n ≤ maxLen) (hz : n * 8 ≤ 140737488351232) : Fn Try.prog 5 [.c (.sl 1 n (c1 x))] (fun obs r => (obs = [.row 3 1 n false (c1 x)] ∧ r = .own 0) ∨ (n = 0 ∧ obs = [] ∧ r = .c (.v (.slice none 0 0)))) := by
  refine fn_of_wpx (O := lex) tab_ok (Γ := fun _ => none) (fun _ _ h => by cases h) mixed Try.func5 (by kernel_rfl) rfl rfl rfl (by simp [Try.ntmps5]) (by kernel_rfl) ?_
  have hb8 : e3.bytes = 8 := rfl
  conv => whnf
  repeat' (first
    | (refine NilG.mk fun bn hbn hbx => ?_; conv => whnf)
    | (refine Both.mk ?_ ?_ <;> conv => whnf)
    | exact trivial
    | (refine Br.mk (fun hb => ?_) (fun hb => ?_) <;> (first | (exfalso; revert hb; decide) | ((try simp only [BL] at hb) <;> (try simp only [DL] at hb) <;> conv => whnf)))
    | (refine And.intro ?_ ?_; (focus (first | exact id | exact rfl | exact trivial | (intro hg; first | exact hg | exact rfl | (simp; done) | (simp at hg ⊢; assumption)) | omega | decide | exact is2_c _ _ _ | exact is1_c _ _ | exact isS_c _ _ | exact isB_c _ _ | exact Nat.le_refl _ | assumption | exact mulLe (by decide) (by omega) | exact mulLe2 (by decide) (by omega) (by omega) | (intros; simp only [BL] at *; omega) | (intros; (try simp only [BL] at *); (try simp only [DL] at *); omega) | (intros; simp only [BL] at *; rw [wr_id (by omega) (by omega)]; omega) | (intro h1 h2; exact Bool.and_eq_true_iff.2 ⟨h1, h2⟩) | first | (rw [hb8]; omega) | omega | (intros; simp_all; done))); conv => whnf)
    | (refine Or.inr (And.intro rfl ?_); first | (refine congrArg intV ?_) | (refine congrArg boolV ?_) | (refine tupII ?_ ?_) | (refine tupIII ?_ ?_ ?_) | (refine tupU ?_ ?_ ?_ ?_ ?_) | exact rfl))
  · exact .inr (.inr ⟨hbn (by simpa using hb), rfl, rfl⟩)
  · refine .inl ⟨[1], [.row 3 1 n false (c1 x)], .own 0, rfl, ?_, rfl, rfl, .inl ⟨rfl, rfl⟩⟩
    repeat' (first | (refine And.intro ?_ ?_) | exact trivial | exact rfl | exact (Nat.zero_add _).symm | exact fun h => Bool.noConfusion h | exact fun _ _ _ _ => rfl | omega)
theorem withinT (n : Int) : Fn Try.prog 6 [intV n, intV (-1000), intV 1000] (fun obs r => obs = [] ∧ ∃ w, r = intV w) := by
  refine fn_of_wpx (O := lex) tab_ok (Γ := fun _ => none) (fun _ _ h => by cases h) mixed Try.func6 (by kernel_rfl) rfl rfl rfl (by simp [Try.ntmps6]) (by kernel_rfl) ?_
  conv => whnf
  repeat' (first
    | (refine NilG.mk fun bn hbn hbx => ?_; conv => whnf)
    | (refine Both.mk ?_ ?_ <;> conv => whnf)
    | exact trivial
    | (refine Br.mk (fun hb => ?_) (fun hb => ?_) <;> (first | (exfalso; revert hb; decide) | ((try simp only [BL] at hb) <;> (try simp only [DL] at hb) <;> conv => whnf)))
    | (refine And.intro ?_ ?_; (focus (first | exact id | exact rfl | exact trivial | (intro hg; first | exact hg | exact rfl | (simp; done) | (simp at hg ⊢; assumption)) | omega | decide | exact is2_c _ _ _ | exact is1_c _ _ | exact isS_c _ _ | exact isB_c _ _ | exact Nat.le_refl _ | assumption | exact mulLe (by decide) (by omega) | exact mulLe2 (by decide) (by omega) (by omega) | (intros; simp only [BL] at *; omega) | (intros; (try simp only [BL] at *); (try simp only [DL] at *); omega) | (intros; simp only [BL] at *; rw [wr_id (by omega) (by omega)]; omega) | (intro h1 h2; exact Bool.and_eq_true_iff.2 ⟨h1, h2⟩) | (intros; simp_all; done))); conv => whnf)
    | (refine Or.inr (And.intro rfl ?_); first | (refine congrArg intV ?_) | (refine congrArg boolV ?_) | (refine tupII ?_ ?_) | (refine tupIII ?_ ?_ ?_) | (refine tupU ?_ ?_ ?_ ?_ ?_) | exact rfl))
  exact .inr ⟨rfl, _, rfl⟩
/-- one more price -/
def apW (m : Nat) (pr : Nat → Int) (w : Int) : Nat → Int := fun k => if k < m then pr k else w
theorem apS (m : Nat) (pr : Nat → Int) (w : Int) : Sh (m + 1) 1 (fun k j => if k < m then c1 pr k j else ([iL w][(k - m) * 1 + j]?).getD (.v undef)) (c1 (apW m pr w)) := fun k hk j hj => by
  match j, hj with
  | 0, _ =>
    by_cases e : k < m
    · exact (if_pos e).trans (congrArg iL (if_pos e).symm)
    · have ek : k = m := by omega
      refine (if_neg e).trans ?_
      rw [ek, Nat.sub_self]
      exact congrArg iL (if_neg (Nat.lt_irrefl m)).symm
theorem apS0 (pr : Nat → Int) (w : Int) : Sh 1 1 (fun k j => ([iL w][k * 1 + j]?).getD (.v undef)) (c1 (apW 0 pr w)) := fun k hk j hj => by
  match k, j, hk, hj with
  | 0, 0, _, _ => rfl
def ordTS : Ord := fun id => if id = 7 then some (.go 1 (.go 3 (.fork (.alt 0 (.go 2 (.go 4 (.go 5 (.go 6 (.go 7 (.go 8 (.go 9 (.go 10 (.go 11 (.go 12 (.go 13 (.go 14 (.done))))))))))))) (.alt 2 (.fork (.alt 0 (.go 4 (.go 5 (.go 6 (.go 7 (.go 8 (.go 9 (.go 10 (.go 11 (.go 12 (.go 13 (.go 14 (.done)))))))))))) (.alt 4 (.fork (.alt 0 (.go 5 (.go 6 (.go 7 (.go 8 (.go 9 (.go 10 (.go 11 (.go 12 (.go 13 (.go 14 (.done))))))))))) (.alt 5 (.fork (.alt 0 (.go 6 (.go 7 (.go 8 (.go 9 (.go 10 (.go 11 (.go 12 (.go 13 (.go 14 (.done)))))))))) (.alt 6 (.go 0 (.go 7 (.go 8 (.go 9 (.go 10 (.go 11 (.go 12 (.go 13 (.go 14 (.done)))))))))) (.none)))) (.none)))) (.none)))) (.none)))))) else none
set_option maxHeartbeats 4000000 in
theorem tsLaw (s : Sto) (m : Nat) (pr : Nat → Int) (x : Int) (hm : m ≤ maxLen) (hz : m * 8 ≤ 140737488351232) : Fn1 Try.prog 3 [sV s, .c (.sl 1 m (c1 pr)), intV x] (boolV true) := by
  refine fn_of_wpx (O := ordTS) tab_ok (Γ := fun _ => none) (fun _ _ h => by cases h) mixed Try.func3 (by kernel_rfl) rfl rfl rfl (by simp [Try.ntmps3]) (by kernel_rfl) ?_
  have hb8 : e3.bytes = 8 := rfl
  conv => whnf
  repeat' (first
    | (refine NilG.mk fun bn hbn hbx => ?_; conv => whnf)
    | (refine Both.mk ?_ ?_ <;> conv => whnf)
    | exact trivial
    | (refine Br.mk (fun hb => ?_) (fun hb => ?_) <;> (first | (exfalso; revert hb; decide) | ((try simp only [BL] at hb) <;> (try simp only [DL] at hb) <;> conv => whnf)))
    | (refine And.intro ?_ ?_; (focus (first | exact id | exact rfl | exact trivial | (intro hg; first | exact hg | exact rfl | (simp; done) | (simp at hg ⊢; assumption)) | omega | decide | exact is2_c _ _ _ | exact is1_c _ _ | exact isS_c _ _ | exact isB_c _ _ | exact Nat.le_refl _ | assumption | exact mulLe (by decide) (by omega) | exact mulLe2 (by decide) (by omega) (by omega) | (intros; simp only [BL] at *; omega) | (intros; (try simp only [BL] at *); (try simp only [DL] at *); omega) | (intros; simp only [BL] at *; rw [wr_id (by omega) (by omega)]; omega) | (intro h1 h2; exact Bool.and_eq_true_iff.2 ⟨h1, h2⟩) | (intros; simp_all; done))); conv => whnf)
    | (refine Or.inr (And.intro rfl ?_); first | (refine congrArg intV ?_) | (refine congrArg boolV ?_) | (refine tupII ?_ ?_) | (refine tupIII ?_ ?_ ?_) | (refine tupU ?_ ?_ ?_ ?_ ?_) | exact rfl))
  refine CallG.mk (Fn.mono (exBest.le (Le.cons (Le1.refl _) (Le.cons (Le1.sl fun k hk j hj => ?_) Le.nil))) ?_)
  · match k, j, hk, hj with
    | 0, 0, _, _ => rfl
    | 1, 0, _, _ => rfl
  rintro obs r ⟨rfl, rfl⟩
  conv => whnf
  repeat' (first
    | (refine NilG.mk fun bn hbn hbx => ?_; conv => whnf)
    | (refine Both.mk ?_ ?_ <;> conv => whnf)
    | exact trivial
    | (refine Br.mk (fun hb => ?_) (fun hb => ?_) <;> (first | (exfalso; revert hb; decide) | ((try simp only [BL] at hb) <;> (try simp only [DL] at hb) <;> conv => whnf)))
    | (refine And.intro ?_ ?_; (focus (first | exact id | exact rfl | exact trivial | (intro hg; first | exact hg | exact rfl | (simp; done) | (simp at hg ⊢; assumption)) | omega | decide | exact is2_c _ _ _ | exact is1_c _ _ | exact isS_c _ _ | exact isB_c _ _ | exact Nat.le_refl _ | assumption | exact mulLe (by decide) (by omega) | exact mulLe2 (by decide) (by omega) (by omega) | (intros; simp only [BL] at *; omega) | (intros; (try simp only [BL] at *); (try simp only [DL] at *); omega) | (intros; simp only [BL] at *; rw [wr_id (by omega) (by omega)]; omega) | (intro h1 h2; exact Bool.and_eq_true_iff.2 ⟨h1, h2⟩) | (intros; simp_all; done))); conv => whnf)
    | (refine Or.inr (And.intro rfl ?_); first | (refine congrArg intV ?_) | (refine congrArg boolV ?_) | (refine tupII ?_ ?_) | (refine tupIII ?_ ?_ ?_) | (refine tupU ?_ ?_ ?_ ?_ ?_) | exact rfl))
  · rfl
  refine CallG.mk (Fn.mono (stBest2 s m pr hm) ?_)
  rintro obs r ⟨rfl, k1, fl1, a1, e1, rfl, h1⟩
  conv => whnf
  repeat' (first
    | (refine NilG.mk fun bn hbn hbx => ?_; conv => whnf)
    | (refine Both.mk ?_ ?_ <;> conv => whnf)
    | exact trivial
    | (refine Br.mk (fun hb => ?_) (fun hb => ?_) <;> (first | (exfalso; revert hb; decide) | ((try simp only [BL] at hb) <;> (try simp only [DL] at hb) <;> conv => whnf)))
    | (refine And.intro ?_ ?_; (focus (first | exact id | exact rfl | exact trivial | (intro hg; first | exact hg | exact rfl | (simp; done) | (simp at hg ⊢; assumption)) | omega | decide | exact is2_c _ _ _ | exact is1_c _ _ | exact isS_c _ _ | exact isB_c _ _ | exact Nat.le_refl _ | assumption | exact mulLe (by decide) (by omega) | exact mulLe2 (by decide) (by omega) (by omega) | (intros; simp only [BL] at *; omega) | (intros; (try simp only [BL] at *); (try simp only [DL] at *); omega) | (intros; simp only [BL] at *; rw [wr_id (by omega) (by omega)]; omega) | (intro h1 h2; exact Bool.and_eq_true_iff.2 ⟨h1, h2⟩) | (intros; simp_all; done))); conv => whnf)
    | (refine Or.inr (And.intro rfl ?_); first | (refine congrArg intV ?_) | (refine congrArg boolV ?_) | (refine tupII ?_ ?_) | (refine tupIII ?_ ?_ ?_) | (refine tupU ?_ ?_ ?_ ?_ ?_) | exact rfl))
  repeat' (first
    | (refine CallG.mk (Fn.mono (cloneW m pr hm hz) ?_); rintro obs r (⟨rfl, rfl⟩ | ⟨hm0, rfl, rfl⟩) <;> ((conv => whnf); repeat' (first | (refine NilG.mk fun bn hbn hbx => ?_; conv => whnf) | (refine Both.mk ?_ ?_ <;> conv => whnf) | exact trivial | (refine Br.mk (fun hb => ?_) (fun hb => ?_) <;> (first | (exfalso; revert hb; decide) | ((try simp only [BL] at hb) <;> (try simp only [DL] at hb) <;> conv => whnf))) | (refine And.intro ?_ ?_; (focus (first | exact id | exact rfl | exact trivial | (intro hg; first | exact hg | exact rfl | (simp; done) | (simp at hg ⊢; assumption)) | omega | decide | exact is2_c _ _ _ | exact is1_c _ _ | exact isS_c _ _ | exact isB_c _ _ | exact Nat.le_refl _ | assumption | exact mulLe (by decide) (by omega) | exact mulLe2 (by decide) (by omega) (by omega) | (intros; simp only [BL] at *; omega) | (intros; (try simp only [BL] at *); (try simp only [DL] at *); omega) | (intros; simp only [BL] at *; rw [wr_id (by omega) (by omega)]; omega) | (intro h1 h2; exact Bool.and_eq_true_iff.2 ⟨h1, h2⟩) | first | (rw [hb8]; omega) | omega | (intros; simp_all; done))); conv => whnf) | (refine Or.inr (And.intro rfl ?_); first | (refine congrArg intV ?_) | (refine congrArg boolV ?_) | (refine tupII ?_ ?_) | (refine tupIII ?_ ?_ ?_) | (refine tupU ?_ ?_ ?_ ?_ ?_) | exact rfl))))
    | (refine CallG.mk (Fn.mono (withinT x) ?_); rintro obs r ⟨rfl, w, rfl⟩; ((conv => whnf); repeat' (first | (refine NilG.mk fun bn hbn hbx => ?_; conv => whnf) | (refine Both.mk ?_ ?_ <;> conv => whnf) | exact trivial | (refine Br.mk (fun hb => ?_) (fun hb => ?_) <;> (first | (exfalso; revert hb; decide) | ((try simp only [BL] at hb) <;> (try simp only [DL] at hb) <;> conv => whnf))) | (refine And.intro ?_ ?_; (focus (first | exact id | exact rfl | exact trivial | (intro hg; first | exact hg | exact rfl | (simp; done) | (simp at hg ⊢; assumption)) | omega | decide | exact is2_c _ _ _ | exact is1_c _ _ | exact isS_c _ _ | exact isB_c _ _ | exact Nat.le_refl _ | assumption | exact mulLe (by decide) (by omega) | exact mulLe2 (by decide) (by omega) (by omega) | (intros; simp only [BL] at *; omega) | (intros; (try simp only [BL] at *); (try simp only [DL] at *); omega) | (intros; simp only [BL] at *; rw [wr_id (by omega) (by omega)]; omega) | (intro h1 h2; exact Bool.and_eq_true_iff.2 ⟨h1, h2⟩) | first | (rw [hb8]; omega) | omega | (intros; simp_all; done))); conv => whnf) | (refine Or.inr (And.intro rfl ?_); first | (refine congrArg intV ?_) | (refine congrArg boolV ?_) | (refine tupII ?_ ?_) | (refine tupIII ?_ ?_ ?_) | (refine tupU ?_ ?_ ?_ ?_ ?_) | exact rfl)))))
  all_goals
    have hm1 : m + 1 ≤ maxLen := by unfold maxLen; omega
    first
      | refine CallG.mk (Fn.mono ((stBest2 s (m + 1) (apW m pr w) hm1).le (Le.cons (Le1.refl _) (Le.cons (Le1.sl (apS m pr w)) Le.nil))) ?_)
      | (subst hm0; refine CallG.mk (Fn.mono ((stBest2 s (0 + 1) (apW 0 pr w) hm1).le (Le.cons (Le1.refl _) (Le.cons (Le1.sl (apS0 pr w)) Le.nil))) ?_))
    rintro obs r ⟨rfl, k2, fl2, a2, e2, rfl, h2⟩
    have h9 := top_law hb (fun t ht => if_pos ht) h1 h2
  iterate 10
    · conv => whnf
      repeat' (first
        | (refine NilG.mk fun bn hbn hbx => ?_; conv => whnf)
        | (refine Both.mk ?_ ?_ <;> conv => whnf)
        | exact trivial
        | (refine Br.mk (fun hb => ?_) (fun hb => ?_) <;> (first | (exfalso; revert hb; decide) | ((try simp only [BL] at hb) <;> (try simp only [DL] at hb) <;> conv => whnf)))
        | (refine And.intro ?_ ?_; (focus (first | exact id | exact rfl | exact trivial | (intro hg; first | exact hg | exact rfl | (simp; done) | (simp at hg ⊢; assumption)) | omega | decide | exact is2_c _ _ _ | exact is1_c _ _ | exact isS_c _ _ | exact isB_c _ _ | exact Nat.le_refl _ | assumption | exact mulLe (by decide) (by omega) | exact mulLe2 (by decide) (by omega) (by omega) | (intros; simp only [BL] at *; omega) | (intros; (try simp only [BL] at *); (try simp only [DL] at *); omega) | (intros; simp only [BL] at *; rw [wr_id (by omega) (by omega)]; omega) | (intro h1 h2; exact Bool.and_eq_true_iff.2 ⟨h1, h2⟩) | (intros; simp_all; done))); conv => whnf)
        | (refine Or.inr (And.intro rfl ?_); first | (refine congrArg intV ?_) | (refine congrArg boolV ?_) | (refine tupII ?_ ?_) | (refine tupIII ?_ ?_ ?_) | (refine tupU ?_ ?_ ?_ ?_ ?_) | exact rfl))
      simp only [Bool.or_eq_true, Bool.and_eq_true, bne_iff_ne, decide_eq_true_eq]
      exact h9

def tySto : Ty := .st (.cons (.i .i64) (.cons (.i .i64) (.cons (.i .i64) (.cons (.i .i64) (.cons (.i .i64) .nil)))))
theorem tsB (x : Vals [tySto, .sl (.i .i64), .i .i64]) (hz : Vals.szd Try.prog [tySto, .sl (.i .i64), .i .i64] Try.f3.params.toList x) : x.2.1.1 * 8 ≤ 140737488351232 := by
  have h1 := hz.1 3 (by kernel_rfl)
  have e1 : Try.prog.bytesOf 3 = 8 := by kernel_rfl
  have e2 : reachBytes = 140737488351232 := by kernel_rfl
  rw [e1, e2] at h1
  omega

theorem topStorage_own : ownKnob Try.prog.godebug = none := by kernel_rfl
theorem topStorage_laid : laidOutB Try.prog = true := by kernel_rfl

set_option maxRecDepth 100000 in
theorem topStorage_lifted (os : Os) (started : os.Started) (H : Type) (enc : TypeId × Value → H) :
    ReturnsInHanded {} Try.checked os 3 .any (Rows.topStorageSpec.pre6 enc Try.prog Try.f3 Rows.topStorageRow.domain false) (Rows.topStorageSpec.post enc Try.prog Try.f3 false true false false) := by
  refine returnsInHanded_of_change_sized (C := Try.checked) topStorage_own started (by kernel_rfl) Try.func3
    (ChangeSpec.witness6 (enc := enc) (C := Try.checked) false ⟨#[], #[.agg #[.int .i64 0, .int .i64 0, .int .i64 0, .int .i64 0, .int .i64 0], .slice none 0 0, .int .i64 0], []⟩ 8 (by kernel_rfl) (by kernel_rfl) (by kernel_rfl) (by kernel_rfl)) ?_
  intro W base args ds gs before hval0 hW hcnd hz _
  have hval : ∀ (j : Nat) t v, Try.f3.params[j]? = some t → args[j]? = some v → Value.okWide Try.prog W .any base t v := hval0
  have hW' : DataW.Whole enc Try.prog Try.f3.params.toList Rows.topStorageSpec.vars false W args.toList ds gs before := hW
  exact law_postS (P := Try.prog) [tySto, .sl (.i .i64), .i .i64] (by kernel_rfl) topStorage_laid (by kernel_rfl) rfl rfl (tb := 4) rfl (by kernel_rfl) (fun ds h => by
    match ds, h with
    | [d1, d2, d3], _ => rfl) (fun x hx hz => tsLaw ⟨x.1.1, x.1.2.1, x.1.2.2.1, x.1.2.2.2.1, x.1.2.2.2.2.1⟩ x.2.1.1 x.2.1.2 x.2.2.1 hx.2.1.1 (tsB x hz)) W args ds gs before hval hW' hz

theorem topStorage_holds : Rows.TopStorageSaid :=
  OpenClaim.holds_of_wide 3 Try.f3 rfl rfl rfl rfl rfl rfl rfl ⟨rfl, rfl, rfl, rfl, rfl⟩ rfl rfl rfl rfl rfl (by kernel_rfl) Try.func3 (by kernel_rfl)
    (of_decide_eq_true (by kernel_rfl)) (by unfold Func.isWrapper; rw [if_neg (by decide +kernel)]; exact ⟨rfl, rfl⟩)
    (fun os started H enc _ => topStorage_lifted os started H enc)
end Go.Proofs.Ytnkgoidhejeacaa
