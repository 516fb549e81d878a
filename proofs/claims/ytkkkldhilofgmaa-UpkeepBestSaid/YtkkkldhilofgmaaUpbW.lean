/-
  upkeep.Best: the search.
-/
import Derived.Test.YtkkkldhilofgmaaUpbS
namespace Go.Proofs.Ytkkkldhilofgmaa
open Go.RowKit

theorem FnM.le {P : Program} {f : FuncId} {os : List OB} {bs' bs : List AV} {K : List OB → AV → Prop} (h : FnM P f os bs K) (hl : Le bs' bs) : FnM P f os bs' K :=
  ⟨h.1, fun w I σ0 vs hs hd => h.2 w I σ0 vs hs (hl _ _ _ _ hd)⟩
def bA (t : Tsk) : Bst → AV
  | none => .c (.v (.slice none 0 0))
  | some p => .c (.sl 1 t.n (c1 (xd t p.1)))
def bC : Bst → AV
  | none => intV 0
  | some p => intV p.2
def bB (t : Tsk) (s : Bst) : OB := .box [.c (.sl 5 t.n (cJ t)), .c (.sl 2 t.m (c2 t.a t.b)), intV t.c, bA t s, bC s]

theorem upClone0 (n : Nat) (x : Nat → Int) (hn : n ≤ 1000) : Fn Try.prog 14 [.c (.sl 1 n (c1 x))] (fun obs r => obs = [] ∧ (r = .c (.sl 1 n (c1 x)) ∨ n = 0 ∧ r = .c (.v (.slice none 0 0)))) := by
  refine fn_of_wpx (O := lex) tab_ok gamN1_ok mixed Try.func14 (by kernel_rfl) rfl rfl rfl (by simp [Try.ntmps14]) (by kernel_rfl) ?_
  conv => whnf
  repeat' (first
    | (refine NilG.mk fun bn hbn hbx => ?_; conv => whnf)
    | (refine Both.mk ?_ ?_ <;> conv => whnf)
    | exact trivial
    | (refine Br.mk (fun hb => ?_) (fun hb => ?_) <;> (first | (exfalso; revert hb; decide) | ((try simp only [BL] at hb) <;> (try simp only [DL] at hb) <;> conv => whnf)))
    | (refine And.intro ?_ ?_; (focus (first | exact id | exact rfl | exact trivial | (intro hg; first | exact hg | exact rfl | (simp; done) | (simp at hg ⊢; assumption)) | omega | decide | exact is2_c _ _ _ | exact is1_c _ _ | exact isS_c _ _ | exact isB_c _ _ | exact Nat.le_refl _ | assumption | exact mulLe (by decide) (by omega) | exact mulLe2 (by decide) (by omega) (by omega) | (intros; simp only [BL] at *; omega) | (intros; (try simp only [BL] at *); (try simp only [DL] at *); omega) | (intros; simp only [BL] at *; rw [wr_id (by omega) (by omega)]; omega) | (intro h1 h2; exact Bool.and_eq_true_iff.2 ⟨h1, h2⟩) | (intros; simp_all; done))); conv => whnf)
    | (refine Or.inr (And.intro rfl ?_); first | (refine congrArg intV ?_) | (refine congrArg boolV ?_) | (refine tupII ?_ ?_) | (refine tupIII ?_ ?_ ?_) | (refine tupU ?_ ?_ ?_ ?_ ?_) | exact rfl))
  · exact .inr ⟨rfl, .inr ⟨hbn (by simpa using hb), rfl⟩⟩
  · refine .inr ⟨rfl, .inl ?_⟩
    show AV.c (.sl 1 (0 + n) fun k j => if k < 0 then _ else c1 x (k - 0) j) = _
    rw [Nat.zero_add]
    rfl
theorem upClone (n : Nat) (x : Nat → Int) (hn : n ≤ 1000) : Fn1 Try.prog 14 [.c (.sl 1 n (c1 x))] (.c (.sl 1 n (c1 x))) :=
  (upClone0 n x hn).res fun obs r ⟨h1, h2⟩ => by
    rcases h2 with h2 | ⟨h2, h3⟩
    · exact ⟨_, ⟨h1, rfl⟩, h2 ▸ Le1.refl _⟩
    · subst h2 h3
      exact ⟨_, ⟨h1, rfl⟩, Le1.nil⟩

abbrev wPreU (t : Tsk) (nx : Nat) (x : Nat → Int) (i : Int) : Prop := tskE t = 0 ∧ 0 ≤ i ∧ i < nx ∧ i < t.n ∧ ∀ k : Nat, k ≤ i.toNat → 0 ≤ x k ∧ x k ≤ 60
def gamU : Gam := fun f => match f with
  | 59 => some (sT Tsk.ok fun t => intV (tskE t))
  | 100 => some (sTxi wPreU fun t _ x i => intV (wrE t x i.toNat))
  | _ => none
theorem gamU_ok : GOk Try.prog gamU := fun f g h => by
  unfold gamU at h
  split at h
  · injection h with h; subst h; exact sT_ok upCheck
  · injection h with h; subst h; exact sTxi_ok fun t nx x i hp => by
      obtain ⟨p1, p2, p3, p4, p5⟩ := hp
      have := upWrongG t x nx i.toNat p1 (by omega) (by omega) p5
      rwa [show ((i.toNat : Nat) : Int) = i by omega] at this
  · cases h

theorem Le1.of_eq {a b : AV} (h : a = b) : Le1 a b := h ▸ Le1.refl a
/-- a row with one more element -/
def apF (x : Nat → Int) (i : Nat) (d : Int) : Nat → Nat → L := fun k b => if k < i then c1 x (0 + k) b else [iL d][(k - i) * 1 + b]?.getD (.v undef)
theorem apF_sh {x y : Nat → Int} {i : Nat} {d : Int} (h : ∀ k, k < i → x k = y k) (hd : d = y i) : Sh (i + 1) 1 (apF x i d) (c1 y) := fun k hk b hb => by
  obtain rfl : b = 0 := by omega
  unfold apF
  by_cases e : k < i
  · rw [if_pos e, Nat.zero_add]
    exact congrArg iL (h k e)
  · obtain rfl : k = i := by omega
    rw [if_neg e, Nat.sub_self, hd]
    rfl
theorem apF_is1 (x : Nat → Int) (i : Nat) (d : Int) : is1 (i + 1) (apF x i d) := fun k hk b hb => by
  obtain rfl : b = 0 := by omega
  rw [apF_sh (y := fun k => if k < i then x k else d) (fun k hk => (if_pos hk).symm) (if_neg (Nat.lt_irrefl i)).symm k hk 0 (by omega)]
  show _ = iL (apF x i d k 0).toI
  rw [apF_sh (y := fun k => if k < i then x k else d) (fun k hk => (if_pos hk).symm) (if_neg (Nat.lt_irrefl i)).symm k hk 0 (by omega)]
  rfl
theorem apF_d0 {x y : Nat → Int} {i : Nat} {d : Int} (h : ∀ k, k < i → x k = y k) (hd : d = y i) {k : Nat} (hk : k ≤ i) : d0 (apF x i d) k = y k := by
  show (apF x i d k 0).toI = y k
  rw [apF_sh h hd k (by omega) 0 (by omega)]
  rfl

set_option maxHeartbeats 4000000 in
theorem tryS (t : Tsk) (hE : tskE t = 0) (h0 : 0 < t.n) (i : Nat) (g : Nat → Nat) (s : Bst) (hi : i ≤ t.n) (hg : ∀ k, k < i → g k < wdT t k) (hw : ∀ k, k < i → wrE t (xd t g) k = 0)
    (ih : i < t.n → ∀ g' s', (∀ k, k < i + 1 → g' k < wdT t k) → (∀ k, k < i + 1 → wrE t (xd t g') k = 0) → FnM Try.prog 60 [bB t s'] [.lp 0 0, .c (.sl 1 (i + 1) (c1 (xd t g'))), intV (S (coK t (xd t g')) (i + 1))] (fun obs r => obs = [bB t (dfT t (t.n - (i + 1)) g' s')] ∧ r = .tup [])) :
    FnM Try.prog 60 [bB t s] [.lp 0 0, .c (.sl 1 i (c1 (xd t g))), intV (S (coK t (xd t g)) i)] (fun obs r => obs = [bB t (dfT t (t.n - i) g s)] ∧ r = .tup []) := by
  have ht := TskOk.of hE
  have hn6 := ht.n6
  refine fnM_of_wpx (O := lex) tab_ok gamU_ok mixed Try.func60 (by kernel_rfl) rfl rfl rfl (by simp [Try.ntmps60]) (by kernel_rfl) ?_
  have hS := co_sum ht hi hg
  obtain ⟨s0, hs0⟩ : ∃ s0, s0 = s := ⟨s, rfl⟩
  rcases s with _ | p
  iterate 2
    · conv => whnf
      repeat' (first
        | (refine NilG.mk fun bn hbn hbx => ?_; conv => whnf)
        | (refine Both.mk ?_ ?_ <;> conv => whnf)
        | exact trivial
        | (refine Br.mk (fun hb => ?_) (fun hb => ?_) <;> (first | (exfalso; revert hb; decide) | ((try simp only [BL] at hb) <;> (try simp only [DL] at hb) <;> conv => whnf)))
        | (refine And.intro ?_ ?_; (focus (first | exact id | exact rfl | exact trivial | (intro hg; first | exact hg | exact rfl | (simp; done) | (simp at hg ⊢; assumption)) | omega | decide | exact is2_c _ _ _ | exact is1_c _ _ | exact isS_c _ _ | exact isB_c _ _ | exact Nat.le_refl _ | assumption | exact mulLe (by decide) (by omega) | exact mulLe2 (by decide) (by omega) (by omega) | (intros; simp only [BL] at *; omega) | (intros; (try simp only [BL] at *); (try simp only [DL] at *); omega) | (intros; simp only [BL] at *; rw [wr_id (by omega) (by omega)]; omega) | (intro h1 h2; exact Bool.and_eq_true_iff.2 ⟨h1, h2⟩) | (intros; simp_all; done))); conv => whnf)
        | (refine Or.inr (And.intro rfl ?_); first | (refine congrArg intV ?_) | (refine congrArg boolV ?_) | (refine tupII ?_ ?_) | (refine tupIII ?_ ?_ ?_) | (refine tupU ?_ ?_ ?_ ?_ ?_) | exact rfl))
      · first
          | exact absurd (hbx rfl) hb.1
          | (have hr : dfT t (t.n - i) g (some p) = some p := df_dear ht hi hb.2
             refine ⟨[0], [bB t (some p)], .tup [], rfl, ?_, rfl, rfl, ?_, Nat.le_refl _, by rw [hr], rfl⟩
             all_goals repeat' (first | (refine And.intro ?_ ?_) | exact trivial | exact rfl))
      · rename_i hb1
        have hbt : btr s0 (S (coK t (xd t g)) i) = true := by
          rw [hs0]
          first
            | rfl
            | (refine decide_eq_true ?_
               rcases hb1 with hb1 | hb1
               · have := hbn hb1; omega
               · omega)
        obtain rfl : i = t.n := by omega
        refine CallG.mk (Fn.mono (upClone t.n (xd t g) (by omega)) ?_)
        rintro obs r ⟨rfl, rfl⟩
        conv => whnf
        repeat' (first
          | (refine NilG.mk fun bn hbn hbx => ?_; conv => whnf)
          | (refine Both.mk ?_ ?_ <;> conv => whnf)
          | exact trivial
          | (refine Br.mk (fun hb => ?_) (fun hb => ?_) <;> (first | (exfalso; revert hb; decide) | ((try simp only [BL] at hb) <;> (try simp only [DL] at hb) <;> conv => whnf)))
          | (refine And.intro ?_ ?_; (focus (first | exact id | exact rfl | exact trivial | (intro hg; first | exact hg | exact rfl | (simp; done) | (simp at hg ⊢; assumption)) | omega | decide | exact is2_c _ _ _ | exact is1_c _ _ | exact isS_c _ _ | exact isB_c _ _ | exact Nat.le_refl _ | assumption | exact mulLe (by decide) (by omega) | exact mulLe2 (by decide) (by omega) (by omega) | (intros; simp only [BL] at *; omega) | (intros; (try simp only [BL] at *); (try simp only [DL] at *); omega) | (intros; simp only [BL] at *; rw [wr_id (by omega) (by omega)]; omega) | (intro h1 h2; exact Bool.and_eq_true_iff.2 ⟨h1, h2⟩) | (intros; simp_all; done))); conv => whnf)
          | (refine Or.inr (And.intro rfl ?_); first | (refine congrArg intV ?_) | (refine congrArg boolV ?_) | (refine tupII ?_ ?_) | (refine tupIII ?_ ?_ ?_) | (refine tupU ?_ ?_ ?_ ?_ ?_) | exact rfl))
        have hr : dfT t (t.n - t.n) g s0 = some (g, S (coK t (xd t g)) t.n) := by rw [Nat.sub_self]; exact df_leaf hw hbt
        rw [hs0] at hr
        refine ⟨[0], [bB t (some (g, S (coK t (xd t g)) t.n))], .tup [], rfl, ?_, rfl, rfl, ?_, Nat.le_refl _, by rw [hr], rfl⟩
        all_goals repeat' (first | (refine And.intro ?_ ?_) | exact trivial | exact rfl)
      have hlt : i < t.n := by omega
      have hla := wdT_la ht hlt
      have jb := ht.job i hlt
      have h12 := wdT_le ht i
      clear hbn hbx
      refine sem_loop tab_ok gamU_ok mixed (by kernel_rfl) (O := lex) (fun j : Nat => ⟨[(0, .lp 0 0), (1, .c (.sl 1 i (c1 (xd t g)))), (2, intV (S (coK t (xd t g)) i)), (6, intV i), (7, .lp 1 0), (8, intV (t.ff i + j)), (1000000, .gh 0)], [bB t (dayT t i g s0 j), .box [.c (.v (.string (t.nm i))), intV (t.lg i), intV (t.ff i), intV (t.la i), intV (t.we i)]]⟩) (fun j => j ≤ wdT t i) (fun j => wdT t i - j) ⟨0, [?_, ?_], Nat.zero_le _, ?_⟩ fun j hj => ?_
      rotate_left 2
      · refine Sub.of ?_ ?_ ?_
        repeat' (first | (refine And.intro ?_ ?_) | exact trivial | exact fun _ _ _ => hsc _ _ | (exact congrArg intV (by first | with_reducible rfl | with_reducible assumption)) | exact (rfl : AV.idsLt _ _ = true) | exact (rfl : _ = AV.ren _ (.own _)) | exact (rfl : _ = AV.ren _ (.fn _ _)) | exact (rfl : _ = AV.ren _ (.gh _)) | (exact congrArg intV (by assumption)) | (refine congrArg intV ((wr_id (by omega) (by omega)).trans (by omega))) | exact rfl | (simp only [Int.toNat_natCast, Int.toNat_zero, Nat.sub_zero, Nat.zero_add]; first | exact rfl | done) | exact all0 | exact fun h => Bool.noConfusion h | exact fun _ _ _ _ => rfl | omega)
        all_goals first | exact congrArg intV (Int.add_zero _).symm | (rw [show dayT t i g s0 0 = s0 from rfl, hs0]; rfl)
      obtain ⟨s1, hs1⟩ : ∃ s1, dayT t i g s0 j = s1 := ⟨_, rfl⟩
      rw [hs1]
      have hdg : ∀ k, k < i → xd t g k = xd t (dset g i j) k := fun k hk => xd_congr (dset_ne (by omega)).symm
      have hdi : t.ff i + (j : Int) = xd t (dset g i j) i := by unfold xd; rw [dset_at]
      have hwr : wrE t (d0 (apF (xd t g) i (t.ff i + j))) i = wrE t (xd t (dset g i j)) i := wrE_congr fun k hk => apF_d0 hdg hdi hk
      obtain ⟨s2, hs2⟩ : ∃ s2, dfT t (t.n - (i + 1)) (dset g i j) s1 = s2 := ⟨_, rfl⟩
      have hd : dayT t i g s0 (j + 1) = s2 := by rw [day_next, hs1, hs2]
      rcases s1 with _ | q
      iterate 2
        · conv => whnf
          repeat' (first
            | (refine NilG.mk fun bn hbn hbx => ?_; conv => whnf)
            | (refine Both.mk ?_ ?_ <;> conv => whnf)
            | exact trivial
            | (refine Br.mk (fun hb => ?_) (fun hb => ?_) <;> (first | (exfalso; revert hb; decide) | ((try simp only [BL] at hb) <;> (try simp only [DL] at hb) <;> conv => whnf)))
            | (refine And.intro ?_ ?_; (focus (first | exact id | exact rfl | exact trivial | (intro hg; first | exact hg | exact rfl | (simp; done) | (simp at hg ⊢; assumption)) | omega | decide | exact is2_c _ _ _ | exact is1_c _ _ | exact isS_c _ _ | exact isB_c _ _ | exact Nat.le_refl _ | assumption | exact mulLe (by decide) (by omega) | exact mulLe2 (by decide) (by omega) (by omega) | (intros; simp only [BL] at *; omega) | (intros; (try simp only [BL] at *); (try simp only [DL] at *); omega) | (intros; simp only [BL] at *; rw [wr_id (by omega) (by omega)]; omega) | (intro h1 h2; exact Bool.and_eq_true_iff.2 ⟨h1, h2⟩) | (intros; simp_all; done))); conv => whnf)
            | (refine Or.inr (And.intro rfl ?_); first | (refine congrArg intV ?_) | (refine congrArg boolV ?_) | (refine tupII ?_ ?_) | (refine tupIII ?_ ?_ ?_) | (refine tupU ?_ ?_ ?_ ?_ ?_) | exact rfl))
          · refine And.intro ⟨isT_c t, apF_is1 (xd t g) i (t.ff i + j), hE, Int.natCast_nonneg i, (by show (i : Int) < ((i + 1 : Nat) : Int); omega), (by show (i : Int) < (t.n : Int); omega), fun k hk => ?_⟩ ?_
            · have hk : k ≤ i := hk
              have hd := apF_d0 hdg hdi hk
              have hk2 := xd_in ht (g := dset g i j) (k := k) (by omega) (by by_cases e : k = i
                                                                             · rw [e, dset_at]; omega
                                                                             · rw [dset_ne e]; exact hg k (by omega))
              exact ⟨hd ▸ hk2.2.2.1, hd ▸ hk2.2.2.2⟩
            conv => whnf
            repeat' (first
              | (refine NilG.mk fun bn hbn hbx => ?_; conv => whnf)
              | (refine Both.mk ?_ ?_ <;> conv => whnf)
              | exact trivial
              | (refine Br.mk (fun hb => ?_) (fun hb => ?_) <;> (first | (exfalso; revert hb; decide) | ((try simp only [BL] at hb) <;> (try simp only [DL] at hb) <;> conv => whnf)))
              | (refine And.intro ?_ ?_; (focus (first | exact id | exact rfl | exact trivial | (intro hg; first | exact hg | exact rfl | (simp; done) | (simp at hg ⊢; assumption)) | omega | decide | exact is2_c _ _ _ | exact is1_c _ _ | exact isS_c _ _ | exact isB_c _ _ | exact Nat.le_refl _ | assumption | exact mulLe (by decide) (by omega) | exact mulLe2 (by decide) (by omega) (by omega) | (intros; simp only [BL] at *; omega) | (intros; (try simp only [BL] at *); (try simp only [DL] at *); omega) | (intros; simp only [BL] at *; rw [wr_id (by omega) (by omega)]; omega) | (intro h1 h2; exact Bool.and_eq_true_iff.2 ⟨h1, h2⟩) | (intros; simp_all; done))); conv => whnf)
              | (refine Or.inr (And.intro rfl ?_); first | (refine congrArg intV ?_) | (refine congrArg boolV ?_) | (refine tupII ?_ ?_) | (refine tupIII ?_ ?_ ?_) | (refine tupU ?_ ?_ ?_ ?_ ?_) | exact rfl))
            · have hw0 : wrE t (xd t (dset g i j)) i = 0 := hwr.symm.trans hb
              have hg2 : ∀ k, k < i + 1 → dset g i j k < wdT t k := fun k hk => by
                by_cases e : k = i
                · rw [e, dset_at]; omega
                · rw [dset_ne e]; exact hg k (by omega)
              have hw2 : ∀ k, k < i + 1 → wrE t (xd t (dset g i j)) k = 0 := fun k hk => by
                by_cases e : k = i
                · rw [e]; exact hw0
                · rw [← hw k (by omega)]
                  exact (wrE_congr fun z hz => hdg z (by omega)).symm
              have hc : IntKind.i64.wrap (S (coK t (xd t g)) i + IntKind.i64.wrap (t.we i * IntKind.i64.wrap (t.ff i + (j : Int) - t.ff i))) = S (coK t (xd t (dset g i j))) (i + 1) := by
                have h1 := co_le ht (g := dset g i j) (k := i) hlt (hg2 i (by omega))
                have h2 : coK t (xd t (dset g i j)) i = t.we i * (j : Int) := by rw [coK_xd, dset_at]
                have h3 : S (coK t (xd t (dset g i j))) i = S (coK t (xd t g)) i := S_congr fun k hk => by rw [coK_xd, coK_xd, dset_ne (by omega)]
                have h4 : S (coK t (xd t (dset g i j))) (i + 1) = S (coK t (xd t (dset g i j))) i + coK t (xd t (dset g i j)) i := rfl
                rw [h4, h3, h2]
                rw [h2] at h1
                rw [show t.ff i + (j : Int) - t.ff i = j by omega, wr_id (x := (j : Int)) (by omega) (by omega), wr_id (x := t.we i * (j : Int)) (by omega) (by omega)]
                exact wr_id (by omega) (by omega)
              first
                | refine CallG.wr [0] rfl (FnM.mono ((ih hlt (dset g i j) none hg2 hw2).le (Le.cons (Le1.refl _) (Le.cons (Le1.sl (apF_sh hdg hdi)) (Le.cons (Le1.of_eq (congrArg intV hc)) Le.nil)))) ?_)
                | refine CallG.wr [0] rfl (FnM.mono ((ih hlt (dset g i j) (some q) hg2 hw2).le (Le.cons (Le1.refl _) (Le.cons (Le1.sl (apF_sh hdg hdi)) (Le.cons (Le1.of_eq (congrArg intV hc)) Le.nil)))) ?_)
              rintro obs r ⟨rfl, rfl⟩
              rw [hs2]
              rcases s2 with _ | q2
              iterate 2
                · conv => whnf
                  repeat' (first
                    | (refine NilG.mk fun bn hbn hbx => ?_; conv => whnf)
                    | (refine Both.mk ?_ ?_ <;> conv => whnf)
                    | exact trivial
                    | (refine Br.mk (fun hb => ?_) (fun hb => ?_) <;> (first | (exfalso; revert hb; decide) | ((try simp only [BL] at hb) <;> (try simp only [DL] at hb) <;> conv => whnf)))
                    | (refine And.intro ?_ ?_; (focus (first | exact id | exact rfl | exact trivial | (intro hg; first | exact hg | exact rfl | (simp; done) | (simp at hg ⊢; assumption)) | omega | decide | exact is2_c _ _ _ | exact is1_c _ _ | exact isS_c _ _ | exact isB_c _ _ | exact Nat.le_refl _ | assumption | exact mulLe (by decide) (by omega) | exact mulLe2 (by decide) (by omega) (by omega) | (intros; simp only [BL] at *; omega) | (intros; (try simp only [BL] at *); (try simp only [DL] at *); omega) | (intros; simp only [BL] at *; rw [wr_id (by omega) (by omega)]; omega) | (intro h1 h2; exact Bool.and_eq_true_iff.2 ⟨h1, h2⟩) | (intros; simp_all; done))); conv => whnf)
                    | (refine Or.inr (And.intro rfl ?_); first | (refine congrArg intV ?_) | (refine congrArg boolV ?_) | (refine tupII ?_ ?_) | (refine tupIII ?_ ?_ ?_) | (refine tupU ?_ ?_ ?_ ?_ ?_) | exact rfl))
                  have e1 : IntKind.i64.wrap (t.ff i + (j : Int) + 1) = t.ff i + ((j + 1 : Nat) : Int) := (wr_id (by omega) (by omega)).trans (by omega)
                  refine ⟨j + 1, [0, 1], by omega, by omega, ?_⟩
                  simp only [hd]
                  refine Sub.of ?_ ?_ ?_
                  repeat' (first | (refine And.intro ?_ ?_) | exact trivial | exact fun _ _ _ => hsc _ _ | (exact congrArg intV (by first | with_reducible rfl | with_reducible assumption)) | exact (rfl : AV.idsLt _ _ = true) | exact (rfl : _ = AV.ren _ (.own _)) | exact (rfl : _ = AV.ren _ (.fn _ _)) | exact (rfl : _ = AV.ren _ (.gh _)) | (exact congrArg intV (by assumption)) | (refine congrArg intV ((wr_id (by omega) (by omega)).trans (by omega))) | exact rfl | (simp only [Int.toNat_natCast, Int.toNat_zero, Nat.sub_zero, Nat.zero_add]; first | exact rfl | done))
            · have hw0 : wrE t (xd t (dset g i j)) i ≠ 0 := fun h => hb (hwr.trans h)
              obtain rfl := hs2.symm.trans (df_wrong hlt hw0)
              have e1 : IntKind.i64.wrap (t.ff i + (j : Int) + 1) = t.ff i + ((j + 1 : Nat) : Int) := (wr_id (by omega) (by omega)).trans (by omega)
              refine ⟨j + 1, [0, 1], by omega, by omega, ?_⟩
              simp only [hd]
              refine Sub.of ?_ ?_ ?_
              repeat' (first | (refine And.intro ?_ ?_) | exact trivial | exact fun _ _ _ => hsc _ _ | (exact congrArg intV (by first | with_reducible rfl | with_reducible assumption)) | exact (rfl : AV.idsLt _ _ = true) | exact (rfl : _ = AV.ren _ (.own _)) | exact (rfl : _ = AV.ren _ (.fn _ _)) | exact (rfl : _ = AV.ren _ (.gh _)) | (exact congrArg intV (by assumption)) | (refine congrArg intV ((wr_id (by omega) (by omega)).trans (by omega))) | exact rfl | (simp only [Int.toNat_natCast, Int.toNat_zero, Nat.sub_zero, Nat.zero_add]; first | exact rfl | done))
          · obtain rfl : j = wdT t i := by omega
            have hr := (df_days (g := g) (s := s0) hlt).trans hs1
            rw [hs0] at hr
            first
              | refine ⟨[0], [bB t none], .tup [], rfl, ?_, rfl, rfl, ?_, Nat.le_refl _, congrArg (fun z => [bB t z]) hr.symm, rfl⟩
              | refine ⟨[0], [bB t (some q)], .tup [], rfl, ?_, rfl, rfl, ?_, Nat.le_refl _, congrArg (fun z => [bB t z]) hr.symm, rfl⟩
            all_goals repeat' (first | (refine And.intro ?_ ?_) | exact trivial | exact rfl)
theorem tryC (t : Tsk) (hE : tskE t = 0) (h0 : 0 < t.n) : ∀ (m i : Nat) (g : Nat → Nat) (s : Bst), i + m = t.n → (∀ k, k < i → g k < wdT t k) → (∀ k, k < i → wrE t (xd t g) k = 0) →
    FnM Try.prog 60 [bB t s] [.lp 0 0, .c (.sl 1 i (c1 (xd t g))), intV (S (coK t (xd t g)) i)] (fun obs r => obs = [bB t (dfT t (t.n - i) g s)] ∧ r = .tup [])
  | 0, i, g, s, him, hg, hw => tryS t hE h0 i g s (by omega) hg hw fun h => absurd h (by omega)
  | m + 1, i, g, s, him, hg, hw => tryS t hE h0 i g s (by omega) hg hw fun _ g' s' hg' hw' => tryC t hE h0 m (i + 1) g' s' (by omega) hg' hw'
end Go.Proofs.Ytkkkldhilofgmaa
