/-
  storage: Value and Best.
-/
import Derived.Test.YtnkgoidhejeacaaStoW
import Derived.Test.YtnkgoidhejeacaaCvx2
namespace Go.Proofs.Ytnkgoidhejeacaa
open Go.RowKit

def sSt2 : (Sto → Nat → (Nat → Int) → AV) → List AV → Sd × AV
  | G, [.agg [.c (.v (.int .i64 a)), .c (.v (.int .i64 b)), .c (.v (.int .i64 c)), .c (.v (.int .i64 d)), .c (.v (.int .i64 e))], .c (.sl 1 m f)] => (.p (is1 m f ∧ m ≤ maxLen), G ⟨a, b, c, d, e⟩ m (d0 f))
  | _, _ => (.p False, .top)
def gamSV : Gam := fun f => match f with
  | 7 => some (sSt2 fun s m pr => intV (stoE s m pr))
  | 11 => some (sCx (fun _ _ n _ _ => n ≤ maxLen) fun lo v n p q => .tup [intV (if cxE lo v n p q = 0 then lo + S p n else 0), intV (cxE lo v n p q)])
  | 10 => some (sCx (fun _ _ n _ _ => n ≤ maxLen) fun lo v n p q => .tup [intV (if cxE lo v n p q = 0 then lo + S (SP1 p q 0) n else 0), intV (if cxE lo v n p q = 0 then v + S (ct p q (S (SP1 p q 0) n)) n else 0), intV (cxE lo v n p q)])
  | _ => none
theorem gamSV_ok : GOk Try.prog gamSV := fun f g h => by
  unfold gamSV at h
  split at h
  · injection h with h; subst h
    intro args hs _
    unfold sSt2 at hs ⊢
    split at hs
    · exact (stCheck ⟨_, _, _, _, _⟩ _ _ hs.2).le (Le.cons (Le1.refl _) (Le.cons (Le1.sl hs.1) Le.nil))
    · exact hs.elim
  · injection h with h; subst h; exact sCx_ok cxHigh
  · injection h with h; subst h; exact sCx_ok cxLeast
  · cases h
def vlK (s : Sto) (m : Nat) (pr : Nat → Int) (obs : List OB) (r : AV) : Prop := obs = [] ∧ ((stoE s m pr ≠ 0 ∧ r = .tup [nulV, intV (stoE s m pr)]) ∨ (stoE s m pr = 0 ∧ ∃ F, stCh s m pr F ∧ r = .tup [(F m).av, intV 0]))
structure Kept (A : Prop) : Prop where
  v : A
theorem LoopG.sub {P : Program} {N : Nat} {c : Code} {S S' : AS} {K : Ex → AS → Prop} (h : LoopG P N c S' K) (h0 : ∃ (x : Nat) (π : List Nat), True ∧ 0 < 1 ∧ Sub π S S') : LoopG P N c S K := by
  obtain ⟨_, π, _, _, hs⟩ := h0
  exact ⟨fun w0 I0 σ I a w hd hN hr => h.sem w0 I0 _ I a w hd hN (hr.sub hs)⟩
theorem share2 (B : Int → Int → Prop) {A : Int → Int → Prop} {G : Prop} (h : Kept (∀ x c, B x c → A x c) → G) (a : ∀ x c, B x c → A x c) : G := h ⟨a⟩
def ordSB : Ord := fun id => if id = 7 then some (.go 0 (.go 1 (.go 2 (.go 3 (.go 5 (.go 7 (.fork (.alt 4 (.fork (.alt 6 (.fork (.alt 8 (.fork (.alt 9 (.go 10 (.go 11 (.go 12 (.go 13 (.go 14 (.go 15 (.done))))))) (.alt 13 (.go 9 (.go 10 (.go 11 (.go 12 (.go 14 (.go 15 (.done))))))) (.none)))) (.alt 13 (.go 8 (.go 9 (.go 10 (.go 11 (.go 12 (.go 14 (.go 15 (.done)))))))) (.none)))) (.alt 8 (.fork (.alt 6 (.fork (.alt 9 (.go 10 (.go 11 (.go 12 (.go 13 (.go 14 (.go 15 (.done))))))) (.alt 13 (.go 9 (.go 10 (.go 11 (.go 12 (.go 14 (.go 15 (.done))))))) (.none)))) (.alt 13 (.go 6 (.go 9 (.go 10 (.go 11 (.go 12 (.go 14 (.go 15 (.done)))))))) (.none)))) (.alt 13 (.go 6 (.go 8 (.go 9 (.go 10 (.go 11 (.go 12 (.go 14 (.go 15 (.done))))))))) (.none))))) (.alt 6 (.fork (.alt 4 (.fork (.alt 8 (.fork (.alt 9 (.go 10 (.go 11 (.go 12 (.go 13 (.go 14 (.go 15 (.done))))))) (.alt 13 (.go 9 (.go 10 (.go 11 (.go 12 (.go 14 (.go 15 (.done))))))) (.none)))) (.alt 13 (.go 8 (.go 9 (.go 10 (.go 11 (.go 12 (.go 14 (.go 15 (.done)))))))) (.none)))) (.alt 8 (.fork (.alt 4 (.fork (.alt 9 (.go 10 (.go 11 (.go 12 (.go 13 (.go 14 (.go 15 (.done))))))) (.alt 13 (.go 9 (.go 10 (.go 11 (.go 12 (.go 14 (.go 15 (.done))))))) (.none)))) (.alt 13 (.go 4 (.go 9 (.go 10 (.go 11 (.go 12 (.go 14 (.go 15 (.done)))))))) (.none)))) (.alt 13 (.go 4 (.go 8 (.go 9 (.go 10 (.go 11 (.go 12 (.go 14 (.go 15 (.done))))))))) (.none))))) (.alt 8 (.fork (.alt 4 (.fork (.alt 6 (.fork (.alt 9 (.go 10 (.go 11 (.go 12 (.go 13 (.go 14 (.go 15 (.done))))))) (.alt 13 (.go 9 (.go 10 (.go 11 (.go 12 (.go 14 (.go 15 (.done))))))) (.none)))) (.alt 13 (.go 6 (.go 9 (.go 10 (.go 11 (.go 12 (.go 14 (.go 15 (.done)))))))) (.none)))) (.alt 6 (.fork (.alt 4 (.fork (.alt 9 (.go 10 (.go 11 (.go 12 (.go 13 (.go 14 (.go 15 (.done))))))) (.alt 13 (.go 9 (.go 10 (.go 11 (.go 12 (.go 14 (.go 15 (.done))))))) (.none)))) (.alt 13 (.go 4 (.go 9 (.go 10 (.go 11 (.go 12 (.go 14 (.go 15 (.done)))))))) (.none)))) (.alt 13 (.go 4 (.go 6 (.go 9 (.go 10 (.go 11 (.go 12 (.go 14 (.go 15 (.done))))))))) (.none))))) (.alt 13 (.go 4 (.go 6 (.go 8 (.go 9 (.go 10 (.go 11 (.go 12 (.go 14 (.go 15 (.done)))))))))) (.none)))))))))))) else none
/-- the last level from which the next one is reached at least cost -/
def stLast (s : Sto) (pr : Int) (f : Cxt) (b k : Int) : Prop := f.in b ∧ -s.D ≤ k - b ∧ k - b ≤ s.C ∧ ∀ z, f.in z → -s.D ≤ k - z → k - z ≤ s.C → f.V b + pr * (k - b) ≤ f.V z + pr * (k - z) ∧ (b < z → f.V b + pr * (k - b) < f.V z + pr * (k - z))
/-- the first level of the least cost at the end -/
def stEnd (s : Sto) (f : Cxt) (k : Int) : Prop := f.in k ∧ s.en ≤ k ∧ ∀ z, f.in z → s.en ≤ z → f.V k ≤ f.V z ∧ (z < k → f.V k < f.V z)
theorem end_of {s : Sto} {t : Nat} {f g : Cxt} (hf : stB s t f) (hs : stOk s) (hr : rsR f s.en s.cap g) : stEnd s f (g.at 0) ∧ g.V (g.at 0) = f.V (g.at 0) := by
  obtain ⟨r1, r2, r3, r4, r5⟩ := hr
  unfold stOk at hs
  have hin := Cxt.at_in r1 0
  have h3 := hf.2.2.1
  have h1 := (r5 _ hin).1
  have hlo := hin.1
  refine ⟨⟨h1, by omega, fun z hz hez => ?_⟩, (r5 _ hin).2⟩
  have hgz : g.in z := ⟨by rw [r2]; have := hz.1; omega, by rw [r3]; have := hz.2; omega⟩
  have h2 := Cxt.first r1 hgz
  rw [(r5 _ hgz).2, (r5 _ hin).2] at h2
  exact h2
theorem at_V {f : Cxt} (h : f.ok) (t : Int) : f.v + S (ct f.p f.q (S (SP1 f.p f.q t) f.n)) f.n = f.V (f.at t) := by
  have hp := SP1_in (q := f.q) (okCx.pos h) t
  rw [Cxt.V_at (m := (S (SP1 f.p f.q t) f.n).toNat) (by unfold Cxt.at; omega)]
  unfold cW
  rw [show (((S (SP1 f.p f.q t) f.n).toNat : Nat) : Int) = S (SP1 f.p f.q t) f.n by omega]
theorem lv_step {s : Sto} {m j : Nat} {pr : Nat → Int} {F : Nat → Cxt} {lv : Nat → Int} {b : Int} (hl : stLast s (pr j) (F j) b (lv (j + 1))) (hlast : ∀ t, j + 1 ≤ t → t < m → stLast s (pr t) (F t) (lv t) (lv (t + 1))) {t : Nat} (h4 : j ≤ t) (h5 : t < m) :
    stLast s (pr t) (F t) (if t = j then b else lv t) (if t + 1 = j then b else lv (t + 1)) := by
  rw [if_neg (show ¬ t + 1 = j by omega)]
  by_cases e : t = j
  · rw [if_pos e, e]; exact hl
  · rw [if_neg e]; exact hlast t (by omega) h5
def bestK (s : Sto) (m : Nat) (pr : Nat → Int) (obs : List OB) (r : AV) : Prop := obs = [] ∧
  ((stoE s m pr ≠ 0 ∧ r = .tup [.c (.v (.slice none 0 0)), intV 0, intV (stoE s m pr)]) ∨
   (stoE s m pr = 0 ∧ ∃ F, stCh s m pr F ∧ (((F m).hi < s.en ∧ r = .tup [.c (.v (.slice none 0 0)), intV 0, intV 8]) ∨
     (s.en ≤ (F m).hi ∧ ∃ lv : Nat → Int, stEnd s (F m) (lv m) ∧ (∀ t, t < m → stLast s (pr t) (F t) (lv t) (lv (t + 1))) ∧ r = .tup [.c (.sl 1 m (c1 fun t => lv (t + 1) - lv t)), intV ((F m).V (lv m)), intV 0]))))
/-- a step back -/
theorem st_back {s : Sto} {f g : Cxt} {k pr : Int} {i : Nat} (hR : stR s pr f g) (hf : f.ok) (hk : g.in k) (hi : i ≤ f.n) (h1 : ∀ z, z < i → f.q z ≤ pr) (h2 : i < f.n → pr < f.q i) {b : Int} (hb : b = min (min (max (max (f.lo + S f.p i) f.lo) (k - s.C)) f.hi) (k + s.D)) : stLast s pr f b k := by
  have hat : f.at (pr + 1) = f.lo + S f.p i := by
    unfold Cxt.at
    rw [SP1_eq (okCx.inc hf) hi (fun z hz => by have := h1 z hz; omega) (fun h => by have := h2 h; omega)]
  have hin := Cxt.at_in hf (pr + 1)
  have hin1 := hin.1
  have hin2 := hin.2
  obtain ⟨-, b0, c1, c2, c3, -⟩ := hR.2.2.2.2 k hk
  have c4 := c1.1
  have c5 := c1.2
  have hbc : b = min (max (f.at (pr + 1)) (max f.lo (k - s.C))) (min f.hi (k + s.D)) := by rw [hat] at hin1 ⊢; omega
  refine ⟨⟨by omega, by omega⟩, by omega, by omega, fun z hz h3 h4 => ?_⟩
  have := Cxt.last hf pr (A := max f.lo (k - s.C)) (B := min f.hi (k + s.D)) (by omega) (by omega) (by omega) hbc (k := z) (by have := hz.1; omega) (by have := hz.2; omega)
  rw [Int.mul_sub, Int.mul_sub]
  exact ⟨by omega, fun h => by have := this.2 h; omega⟩
set_option maxHeartbeats 8000000 in
set_option maxRecDepth 100000 in
theorem stBest (s : Sto) (m : Nat) (pr : Nat → Int) (hm : m ≤ maxLen) : Fn Try.prog 4 [sV s, .c (.sl 1 m (c1 pr))] (bestK s m pr) := by
  refine fn_of_wpx (O := ordSB) tab_ok gamSV_ok mixed Try.func4 (by kernel_rfl) rfl rfl rfl (by simp [Try.ntmps4]) (by kernel_rfl) ?_
  conv => whnf
  repeat' (first
    | (refine NilG.mk fun bn hbn hbx => ?_; conv => whnf)
    | (refine Both.mk ?_ ?_ <;> conv => whnf)
    | exact trivial
    | (refine Br.mk (fun hb => ?_) (fun hb => ?_) <;> (first | (exfalso; revert hb; decide) | ((try simp only [BL] at hb) <;> (try simp only [DL] at hb) <;> conv => whnf)))
    | (refine And.intro ?_ ?_; (focus (first | exact id | exact rfl | exact trivial | (intro hg; first | exact hg | exact rfl | (simp; done) | (simp at hg ⊢; assumption)) | omega | decide | exact is2_c _ _ _ | exact is1_c _ _ | exact isS_c _ _ | exact isB_c _ _ | exact Nat.le_refl _ | assumption | exact mulLe (by decide) (by omega) | exact mulLe2 (by decide) (by omega) (by omega) | (intros; simp only [BL] at *; omega) | (intros; (try simp only [BL] at *); (try simp only [DL] at *); omega) | (intros; simp only [BL] at *; rw [wr_id (by omega) (by omega)]; omega) | (intro h1 h2; exact Bool.and_eq_true_iff.2 ⟨h1, h2⟩) | exact ⟨is1_c _ _, hm⟩ | (intros; simp_all; done))); conv => whnf)
    | (refine Or.inr (And.intro rfl ?_); first | (refine congrArg intV ?_) | (refine congrArg boolV ?_) | (refine tupII ?_ ?_) | (refine tupIII ?_ ?_ ?_) | (refine tupU ?_ ?_ ?_ ?_ ?_) | exact rfl))
  · exact .inr ⟨rfl, .inl ⟨hb, rfl⟩⟩
  have h0 : stoE s m pr = 0 := hb
  obtain ⟨h1, h2, h3⟩ := stoE_zero h0
  have hs0 := h1
  unfold stOk at hs0
  refine CallG.mk (Fn.mono (stCosts s m pr h1 h2 h3) ?_)
  rintro obs r ⟨rfl, F, hc, rfl⟩
  have hB := hc.2.2 m (Nat.le_refl m)
  have hle := Cxt.le hB.1
  have hb8 : e3.bytes = 8 := rfl
  apply share2 (fun x c => stEnd s (F m) x ∧ c = (F m).V x)
  · intro key
    conv => whnf
    repeat' (first
      | (refine NilG.mk fun bn hbn hbx => ?_; conv => whnf)
      | (refine Both.mk ?_ ?_ <;> conv => whnf)
      | exact trivial
      | (refine Br.mk (fun hb => ?_) (fun hb => ?_) <;> (first | (exfalso; revert hb; decide) | ((try simp only [BL] at hb) <;> (try simp only [DL] at hb) <;> conv => whnf)))
      | (refine And.intro ?_ ?_; (focus (first | exact id | exact rfl | exact trivial | (intro hg; first | exact hg | exact rfl | (simp; done) | (simp at hg ⊢; assumption)) | omega | decide | exact is2_c _ _ _ | exact is1_c _ _ | exact isS_c _ _ | exact isB_c _ _ | exact Nat.le_refl _ | assumption | exact mulLe (by decide) (by omega) | exact mulLe2 (by decide) (by omega) (by omega) | (intros; simp only [BL] at *; omega) | (intros; (try simp only [BL] at *); (try simp only [DL] at *); omega) | (intros; simp only [BL] at *; rw [wr_id (by omega) (by omega)]; omega) | (intro h1 h2; exact Bool.and_eq_true_iff.2 ⟨h1, h2⟩) | exact ⟨rfl, by omega, by decide⟩ | (intros; simp_all; done))); conv => whnf)
      | (refine Or.inr (And.intro rfl ?_); first | (refine congrArg intV ?_) | (refine congrArg boolV ?_) | (refine tupII ?_ ?_) | (refine tupIII ?_ ?_ ?_) | (refine tupU ?_ ?_ ?_ ?_ ?_) | exact rfl))
    all_goals first | exact absurd trivial hb | skip
    iterate 22
      · refine CallG.mk (Fn.mono (restG (F m) s.en s.cap hB.1) ?_)
        rintro obs r ⟨rfl, e, g, rfl, hr⟩
        rcases hr with ⟨g1, rfl, -⟩ | ⟨g1, rfl, hr⟩
        · conv => whnf
          repeat' (first
            | (refine NilG.mk fun bn hbn hbx => ?_; conv => whnf)
            | (refine Both.mk ?_ ?_ <;> conv => whnf)
            | exact trivial
            | (refine Br.mk (fun hb => ?_) (fun hb => ?_) <;> (first | (exfalso; revert hb; decide) | ((try simp only [BL] at hb) <;> (try simp only [DL] at hb) <;> conv => whnf)))
            | (refine And.intro ?_ ?_; (focus (first | exact id | exact rfl | exact trivial | (intro hg; first | exact hg | exact rfl | (simp; done) | (simp at hg ⊢; assumption)) | omega | decide | exact is2_c _ _ _ | exact is1_c _ _ | exact isS_c _ _ | exact isB_c _ _ | exact Nat.le_refl _ | assumption | exact mulLe (by decide) (by omega) | exact mulLe2 (by decide) (by omega) (by omega) | (intros; simp only [BL] at *; omega) | (intros; (try simp only [BL] at *); (try simp only [DL] at *); omega) | (intros; simp only [BL] at *; rw [wr_id (by omega) (by omega)]; omega) | (intro h1 h2; exact Bool.and_eq_true_iff.2 ⟨h1, h2⟩) | (intros; simp_all; done))); conv => whnf)
            | (refine Or.inr (And.intro rfl ?_); first | (refine congrArg intV ?_) | (refine congrArg boolV ?_) | (refine tupII ?_ ?_) | (refine tupIII ?_ ?_ ?_) | (refine tupU ?_ ?_ ?_ ?_ ?_) | exact rfl))
          all_goals first | exact absurd trivial hb | (exfalso; revert hb; decide) | skip
          refine .inr ⟨rfl, .inr ⟨h0, F, hc, .inl ⟨?_, rfl⟩⟩⟩
          have := hB.2.2.1
          omega
        · have hgn := hr.1.1
          have hE : cxE g.lo g.v g.n g.p g.q = 0 := ok_cxE hr.1
          obtain ⟨x0, hx0⟩ : ∃ x0, x0 = g.at 0 := ⟨_, rfl⟩
          obtain ⟨c0, hc0⟩ : ∃ c0, c0 = g.V x0 := ⟨_, rfl⟩
          have hx1 : (if cxE g.lo g.v g.n g.p g.q = 0 then g.lo + S (SP1 g.p g.q 0) g.n else 0) = x0 := (if_pos hE).trans hx0.symm
          have hc1 : (if cxE g.lo g.v g.n g.p g.q = 0 then g.v + S (ct g.p g.q (S (SP1 g.p g.q 0) g.n)) g.n else 0) = c0 := (if_pos hE).trans ((at_V hr.1 0).trans (by rw [hc0, hx0]))
          have hend := end_of hB h1 hr
          have em1 : IntKind.i64.wrap ((m : Int) - 1) = (m : Int) - 1 := wr_id (by omega) (by omega)
          conv => whnf
          repeat' (first
            | (refine NilG.mk fun bn hbn hbx => ?_; conv => whnf)
            | (refine Both.mk ?_ ?_ <;> conv => whnf)
            | exact trivial
            | (refine Br.mk (fun hb => ?_) (fun hb => ?_) <;> (first | (exfalso; revert hb; decide) | ((try simp only [BL] at hb) <;> (try simp only [DL] at hb) <;> conv => whnf)))
            | (refine And.intro ?_ ?_; (focus (first | exact id | exact rfl | exact trivial | (intro hg; first | exact hg | exact rfl | (simp; done) | (simp at hg ⊢; assumption)) | omega | decide | exact is2_c _ _ _ | exact is1_c _ _ | exact isS_c _ _ | exact isB_c _ _ | exact Nat.le_refl _ | assumption | exact mulLe (by decide) (by omega) | exact mulLe2 (by decide) (by omega) (by omega) | (intros; simp only [BL] at *; omega) | (intros; (try simp only [BL] at *); (try simp only [DL] at *); omega) | (intros; simp only [BL] at *; rw [wr_id (by omega) (by omega)]; omega) | (intro h1 h2; exact Bool.and_eq_true_iff.2 ⟨h1, h2⟩) | first | exact ⟨is2_c _ _ _, show g.n ≤ maxLen by unfold maxLen; omega⟩ | (intros; simp_all; done))); conv => whnf)
            | (refine Or.inr (And.intro rfl ?_); first | (refine congrArg intV ?_) | (refine congrArg boolV ?_) | (refine tupII ?_ ?_) | (refine tupIII ?_ ?_ ?_) | (refine tupU ?_ ?_ ?_ ?_ ?_) | exact rfl))
          all_goals first | exact absurd trivial hb | skip
          refine LoopG.sub (S' := ⟨[(1, .c (.sl 1 m (c1 pr))), (2, .lp 0 0), (8, .c (.sl 3 (m + 1) (cF F))), (11, intV x0), (12, intV c0), (14, .own 1), (15, intV ((m : Int) - 1))], [.box [intV s.C, intV s.D, intV s.cap, intV s.beg, intV s.en], .row 3 1 m false (c1 fun _ => 0)]⟩) (key.v x0 c0 ⟨by rw [hx0]; exact hend.1, by rw [hc0, hx0]; exact hend.2⟩) ?_
          refine ⟨0, [?_, ?_], trivial, by decide, ?_⟩
          rotate_left 2
          refine Sub.of ?_ ?_ ?_
          repeat' (first | (refine And.intro ?_ ?_) | exact trivial | exact fun _ _ _ => hsc _ _ | (exact congrArg intV (by first | with_reducible rfl | with_reducible assumption)) | exact (rfl : AV.idsLt _ _ = true) | exact (rfl : _ = AV.ren _ (.own _)) | exact (rfl : _ = AV.ren _ (.fn _ _)) | exact (rfl : _ = AV.ren _ (.gh _)) | (exact congrArg intV (by assumption)) | (refine congrArg intV ((wr_id (by omega) (by omega)).trans (by omega))) | exact rfl | (simp only [Int.toNat_natCast, Int.toNat_zero, Nat.sub_zero, Nat.zero_add]; first | exact rfl | done) | exact all0 | exact fun h => Bool.noConfusion h | exact fun _ _ _ _ => rfl | omega)
          intro a ha b hb9
          have hb9 : b < 1 := hb9
          match b, hb9 with
          | 0, _ => rfl
  · intro x0 c0 hxc
    obtain ⟨hx0, hc0⟩ := hxc
    refine sem_loop tab_ok gamSV_ok mixed (by kernel_rfl) (O := ordSB) (fun x : Nat × (Nat → Int) => ⟨[(1, .c (.sl 1 m (c1 pr))), (2, .lp 0 0), (8, .c (.sl 3 (m + 1) (cF F))), (11, intV (x.2 x.1)), (12, intV c0), (14, .own 1), (15, intV ((x.1 : Int) - 1))], [.box [intV s.C, intV s.D, intV s.cap, intV s.beg, intV s.en], .row 3 1 m false (c1 fun z => if x.1 ≤ z then x.2 (z + 1) - x.2 z else 0)]⟩) (fun x => x.1 ≤ m ∧ x.2 m = x0 ∧ (F x.1).in (x.2 x.1) ∧ ∀ t, x.1 ≤ t → t < m → stLast s (pr t) (F t) (x.2 t) (x.2 (t + 1))) (fun x => x.1) ⟨(m, fun _ => x0), [?_, ?_], ⟨Nat.le_refl _, rfl, hx0.1, fun t h1 h2 => absurd h2 (by omega)⟩, ?_⟩ fun y hy => ?_
    rotate_left 2
    · refine Sub.of ?_ ?_ ?_
      repeat' (first | (refine And.intro ?_ ?_) | exact trivial | exact fun _ _ _ => hsc _ _ | (exact congrArg intV (by first | with_reducible rfl | with_reducible assumption)) | exact (rfl : AV.idsLt _ _ = true) | exact (rfl : _ = AV.ren _ (.own _)) | exact (rfl : _ = AV.ren _ (.fn _ _)) | exact (rfl : _ = AV.ren _ (.gh _)) | (exact congrArg intV (by assumption)) | (refine congrArg intV ((wr_id (by omega) (by omega)).trans (by omega))) | exact rfl | (simp only [Int.toNat_natCast, Int.toNat_zero, Nat.sub_zero, Nat.zero_add]; first | exact rfl | done) | exact all0 | exact fun h => Bool.noConfusion h | exact fun _ _ _ _ => rfl | omega)
      · intro a ha b hb9
        match b, hb9 with
        | 0, _ => exact congrArg iL (if_neg (by omega)).symm
    obtain ⟨k, lv⟩ := y
    obtain ⟨hk, hlm, hin, hlast⟩ := hy
    dsimp only at hk hlm hin hlast ⊢
    by_cases hk0 : k = 0
    · subst hk0
      conv => whnf
      repeat' (first
        | (refine NilG.mk fun bn hbn hbx => ?_; conv => whnf)
        | (refine Both.mk ?_ ?_ <;> conv => whnf)
        | exact trivial
        | (refine Br.mk (fun hb => ?_) (fun hb => ?_) <;> (first | (exfalso; revert hb; decide) | ((try simp only [BL] at hb) <;> (try simp only [DL] at hb) <;> (first | (exfalso; omega) | (conv => whnf)))))
        | (refine And.intro ?_ ?_; (focus (first | exact id | exact rfl | exact trivial | (intro hg; first | exact hg | exact rfl | (simp; done) | (simp at hg ⊢; assumption)) | omega | decide | exact is2_c _ _ _ | exact is1_c _ _ | exact isS_c _ _ | exact isB_c _ _ | exact Nat.le_refl _ | assumption | exact mulLe (by decide) (by omega) | exact mulLe2 (by decide) (by omega) (by omega) | (intros; simp only [BL] at *; omega) | (intros; (try simp only [BL] at *); (try simp only [DL] at *); omega) | (intros; simp only [BL] at *; rw [wr_id (by omega) (by omega)]; omega) | (intro h1 h2; exact Bool.and_eq_true_iff.2 ⟨h1, h2⟩) | (intros; simp_all; done))); conv => whnf)
        | (refine Or.inr (And.intro rfl ?_); first | (refine congrArg intV ?_) | (refine congrArg boolV ?_) | (refine tupII ?_ ?_) | (refine tupIII ?_ ?_ ?_) | (refine tupU ?_ ?_ ?_ ?_ ?_) | exact rfl))
      refine .inr ⟨rfl, .inr ⟨h0, F, hc, .inr ⟨?_, lv, by rw [hlm]; exact hx0, fun t ht => hlast t (Nat.zero_le t) ht, ?_⟩⟩⟩
      · have := hx0.1.2
        have := hx0.2.1
        omega
      · show AV.tup [.c (.sl 1 m (c1 fun z => if 0 ≤ z then lv (z + 1) - lv z else 0)), intV c0, intV 0] = _
        rw [hc0, ← hlm, show (fun z => if 0 ≤ z then lv (z + 1) - lv z else 0) = fun z => lv (z + 1) - lv z from funext fun z => if_pos (Nat.zero_le z)]
    obtain ⟨j, rfl⟩ : ∃ j, k = j + 1 := ⟨k - 1, by omega⟩
    have ek : (((j + 1 : Nat) : Int) - 1).toNat = j := by omega
    have hBj := hc.2.2 j (by omega)
    have hEj : cxE (F j).lo (F j).v (F j).n (F j).p (F j).q = 0 := ok_cxE hBj.1
    have hnj := hBj.1.1
    have hpj := h3 j (by omega)
    conv => whnf
    repeat' (first
      | (refine NilG.mk fun bn hbn hbx => ?_; conv => whnf)
      | (refine Both.mk ?_ ?_ <;> conv => whnf)
      | exact trivial
      | (refine Br.mk (fun hb => ?_) (fun hb => ?_) <;> (first | (exfalso; revert hb; decide) | ((try simp only [BL] at hb) <;> (try simp only [DL] at hb) <;> (first | (exfalso; omega) | (conv => whnf)))))
      | (refine And.intro ?_ ?_; (focus (first | exact id | exact rfl | exact trivial | (intro hg; first | exact hg | exact rfl | (simp; done) | (simp at hg ⊢; assumption)) | omega | decide | exact is2_c _ _ _ | exact is1_c _ _ | exact isS_c _ _ | exact isB_c _ _ | exact Nat.le_refl _ | assumption | exact mulLe (by decide) (by omega) | exact mulLe2 (by decide) (by omega) (by omega) | (intros; simp only [BL] at *; omega) | (intros; (try simp only [BL] at *); (try simp only [DL] at *); omega) | (intros; simp only [BL] at *; rw [wr_id (by omega) (by omega)]; omega) | (intro h1 h2; exact Bool.and_eq_true_iff.2 ⟨h1, h2⟩) | first | exact ⟨rfl, by omega, by decide⟩ | exact ⟨is2_c _ _ _, show (F (((j + 1 : Nat) : Int) - 1).toNat).n ≤ maxLen by rw [ek]; unfold maxLen; omega⟩ | exact ⟨by omega, by omega⟩ | (intros; simp_all; done))); conv => whnf)
      | (refine Or.inr (And.intro rfl ?_); first | (refine congrArg intV ?_) | (refine congrArg boolV ?_) | (refine tupII ?_ ?_) | (refine tupIII ?_ ?_ ?_) | (refine tupU ?_ ?_ ?_ ?_ ?_) | exact rfl))
    rw [ek]
    have hH : (if cxE (F j).lo (F j).v (F j).n (F j).p (F j).q = 0 then (F j).lo + S (F j).p (F j).n else 0) = (F j).hi := if_pos hEj
    have hl0 : (F j).lo = (F j).lo + S (F j).p 0 := by simp [S]
    refine sem_loop tab_ok gamSV_ok mixed (by kernel_rfl) (O := ordSB) (fun i : Nat => ⟨[(1, .c (.sl 1 m (c1 pr))), (2, .lp 0 0), (8, .c (.sl 3 (m + 1) (cF F))), (11, intV (lv (j + 1))), (12, intV c0), (14, .own 1), (15, intV (((j + 1 : Nat) : Int) - 1)), (16, .lp 2 0), (17, intV (F j).hi), (19, intV ((F j).lo + S (F j).p i)), (80, .c (.sl 2 (F j).n (c2 (F j).p (F j).q))), (81, intV (F j).n), (82, intV i)], [.box [intV s.C, intV s.D, intV s.cap, intV s.beg, intV s.en], .row 3 1 m false (c1 fun z => if j + 1 ≤ z then lv (z + 1) - lv z else 0), .box [intV (F j).lo, intV (F j).v, .c (.sl 2 (F j).n (c2 (F j).p (F j).q))]]⟩) (fun i => i ≤ (F j).n ∧ ∀ z, z < i → (F j).q z ≤ pr j) (fun i => (F j).n - i) ⟨0, [?_, ?_, ?_], ⟨Nat.zero_le _, fun z h => absurd h (Nat.not_lt_zero z)⟩, ?_⟩ fun i hi => ?_
    rotate_left 3
    · refine Sub.of ?_ ?_ ?_
      repeat' (first | (refine And.intro ?_ ?_) | exact trivial | exact fun _ _ _ => hsc _ _ | (exact congrArg intV (by first | with_reducible rfl | with_reducible assumption)) | exact (rfl : AV.idsLt _ _ = true) | exact (rfl : _ = AV.ren _ (.own _)) | exact (rfl : _ = AV.ren _ (.fn _ _)) | exact (rfl : _ = AV.ren _ (.gh _)) | (exact congrArg intV (by assumption)) | (refine congrArg intV ((wr_id (by omega) (by omega)).trans (by omega))) | exact rfl | (simp only [Int.toNat_natCast, Int.toNat_zero, Nat.sub_zero, Nat.zero_add]; first | exact rfl | done) | exact all0 | exact fun h => Bool.noConfusion h | exact fun _ _ _ _ => rfl | omega)
    obtain ⟨hin1, hi2⟩ := hi
    have hSi := okCx.sS hBj.1 hin1
    have hlo := hBj.2.1
    have hhi := hBj.2.2.1
    have hjl := Cxt.le hBj.1
    have hk1 := hc.2.2 (j + 1) (by omega)
    have hkin1 := hin.1
    have hkin2 := hin.2
    have hklo := hk1.2.1
    have hkhi := hk1.2.2.1
    have wA : IntKind.i64.wrap (lv (j + 1) - s.C) = lv (j + 1) - s.C := wr_id (by omega) (by omega)
    have wB : IntKind.i64.wrap (lv (j + 1) + s.D) = lv (j + 1) + s.D := wr_id (by omega) (by omega)
    conv => whnf
    repeat' (first
      | (refine NilG.mk fun bn hbn hbx => ?_; conv => whnf)
      | (refine Both.mk ?_ ?_ <;> conv => whnf)
      | exact trivial
      | (refine Br.mk (fun hb => ?_) (fun hb => ?_) <;> (first | (exfalso; revert hb; decide) | ((try simp only [BL] at hb) <;> (try simp only [DL] at hb) <;> (first | (exfalso; omega) | (conv => whnf)))))
      | (refine And.intro ?_ ?_; (focus (first | exact id | exact rfl | exact trivial | (intro hg; first | exact hg | exact rfl | (simp; done) | (simp at hg ⊢; assumption)) | omega | decide | exact is2_c _ _ _ | exact is1_c _ _ | exact isS_c _ _ | exact isB_c _ _ | exact Nat.le_refl _ | assumption | exact mulLe (by decide) (by omega) | exact mulLe2 (by decide) (by omega) (by omega) | (intros; simp only [BL] at *; omega) | (intros; (try simp only [BL] at *); (try simp only [DL] at *); omega) | (intros; simp only [BL] at *; rw [wr_id (by omega) (by omega)]; omega) | (intro h1 h2; exact Bool.and_eq_true_iff.2 ⟨h1, h2⟩) | first | exact ⟨rfl, by omega, by decide⟩ | exact ⟨by omega, by omega⟩ | (intros; simp_all; done))); conv => whnf)
      | (refine Or.inr (And.intro rfl ?_); first | (refine congrArg intV ?_) | (refine congrArg boolV ?_) | (refine tupII ?_ ?_) | (refine tupIII ?_ ?_ ?_) | (refine tupU ?_ ?_ ?_ ?_ ?_) | exact rfl))
    · have hbq : pr j < (F j).q i := by rw [ek] at hb; exact hb
      have hRj := hc.2.1 j (by omega)
      obtain ⟨b, hbv⟩ : ∃ b, b = min (min (max (max ((F j).lo + S (F j).p i) (F j).lo) (lv (j + 1) - s.C)) (F j).hi) (lv (j + 1) + s.D) := ⟨_, rfl⟩
      have hl := st_back hRj hBj.1 hin hin1 hi2 (fun _ => hbq) hbv
      have hv : min (min (max (max ((F j).lo + S (F j).p i) (F j).lo) (IntKind.i64.wrap (lv (j + 1) - s.C))) (F j).hi) (IntKind.i64.wrap (lv (j + 1) + s.D)) = (if j = j then b else lv j) := by rw [wA, wB, if_pos rfl, hbv]
      have hb0 := hl.1.1
      have hb1 := hl.1.2
      have wO : IntKind.i64.wrap (lv (j + 1) - min (min (max (max ((F j).lo + S (F j).p i) (F j).lo) (IntKind.i64.wrap (lv (j + 1) - s.C))) (F j).hi) (IntKind.i64.wrap (lv (j + 1) + s.D))) = lv (j + 1) - b := by
        rw [wA, wB, ← hbv]
        exact wr_id (by omega) (by omega)
      have e15 : IntKind.i64.wrap (((j + 1 : Nat) : Int) - 1 - 1) = (j : Int) - 1 := (wr_id (by omega) (by omega)).trans (by omega)
      refine ⟨(j, fun z => if z = j then b else lv z), [?_, ?_], ⟨by show j ≤ m; omega, (if_neg (by omega)).trans hlm, by show (F j).in (if j = j then b else lv j); rw [if_pos rfl]; exact hl.1, fun t h4 h5 => (lv_step hl hlast h4 h5)⟩, Nat.lt_succ_self j, ?_⟩
      rotate_left 2
      refine Sub.of ?_ ?_ ?_
      repeat' (first | (refine And.intro ?_ ?_) | exact trivial | exact fun _ _ _ => hsc _ _ | (exact congrArg intV (by first | with_reducible rfl | with_reducible assumption)) | exact (rfl : AV.idsLt _ _ = true) | exact (rfl : _ = AV.ren _ (.own _)) | exact (rfl : _ = AV.ren _ (.fn _ _)) | exact (rfl : _ = AV.ren _ (.gh _)) | (exact congrArg intV (by assumption)) | (refine congrArg intV ((wr_id (by omega) (by omega)).trans (by omega))) | exact rfl | (simp only [Int.toNat_natCast, Int.toNat_zero, Nat.sub_zero, Nat.zero_add]; first | exact rfl | done) | exact all0 | exact fun h => Bool.noConfusion h | exact fun _ _ _ _ => rfl | omega)
      intro a ha b9 hb9
      match b9, hb9 with
      | 0, _ =>
        by_cases e : a = j
        · refine (if_pos (e.trans ek.symm)).trans ((if_pos ⟨Nat.zero_le _, Nat.zero_lt_one⟩).trans (congrArg iL ?_))
          show IntKind.i64.wrap (lv (j + 1) - min (min (max (max ((F j).lo + S (F j).p i) (F j).lo) (IntKind.i64.wrap (lv (j + 1) - s.C))) (F j).hi) (IntKind.i64.wrap (lv (j + 1) + s.D))) = if j ≤ a then (if a + 1 = j then b else lv (a + 1)) - (if a = j then b else lv a) else 0
          rw [wO, if_pos (by omega), if_neg (by omega), if_pos e, e]
        · refine (if_neg (by omega)).trans (congrArg iL ?_)
          show (if j + 1 ≤ a then lv (a + 1) - lv a else 0) = if j ≤ a then (if a + 1 = j then b else lv (a + 1)) - (if a = j then b else lv a) else 0
          by_cases e2 : j + 1 ≤ a
          · rw [if_pos e2, if_pos (by omega), if_neg (by omega), if_neg e]
          · rw [if_neg e2, if_neg (by omega)]
    · have hbq : ¬ (F j).q i > pr j := by rw [ek] at hb; exact hb
      have hS1 := okCx.sS hBj.1 (k := i + 1) (by omega)
      have hSS : S (F j).p (i + 1) = S (F j).p i + (F j).p i := rfl
      have w5 : IntKind.i64.wrap ((F j).lo + S (F j).p i + (F j).p i) = (F j).lo + S (F j).p (i + 1) := (wr_id (by omega) (by omega)).trans (by omega)
      refine ⟨i + 1, [?_, ?_, ?_], ⟨by omega, fun z hz => if e : z = i then by rw [e]; omega else hi2 z (by omega)⟩, by omega, ?_⟩
      rotate_left 3
      refine Sub.of ?_ ?_ ?_
      repeat' (first | (refine And.intro ?_ ?_) | exact trivial | exact fun _ _ _ => hsc _ _ | (exact congrArg intV (by first | with_reducible rfl | with_reducible assumption)) | exact (rfl : AV.idsLt _ _ = true) | exact (rfl : _ = AV.ren _ (.own _)) | exact (rfl : _ = AV.ren _ (.fn _ _)) | exact (rfl : _ = AV.ren _ (.gh _)) | (exact congrArg intV (by assumption)) | (refine congrArg intV ((wr_id (by omega) (by omega)).trans (by omega))) | exact rfl | (simp only [Int.toNat_natCast, Int.toNat_zero, Nat.sub_zero, Nat.zero_add]; first | exact rfl | done) | exact all0 | exact fun h => Bool.noConfusion h | exact fun _ _ _ _ => rfl | omega)
    · have hin9 : i = (F j).n := by omega
      have hRj := hc.2.1 j (by omega)
      obtain ⟨b, hbv⟩ : ∃ b, b = min (min (max (max ((F j).lo + S (F j).p i) (F j).lo) (lv (j + 1) - s.C)) (F j).hi) (lv (j + 1) + s.D) := ⟨_, rfl⟩
      have hl := st_back hRj hBj.1 hin hin1 hi2 (fun h => absurd h (by omega)) hbv
      have hv : min (min (max (max ((F j).lo + S (F j).p i) (F j).lo) (IntKind.i64.wrap (lv (j + 1) - s.C))) (F j).hi) (IntKind.i64.wrap (lv (j + 1) + s.D)) = (if j = j then b else lv j) := by rw [wA, wB, if_pos rfl, hbv]
      have hb0 := hl.1.1
      have hb1 := hl.1.2
      have wO : IntKind.i64.wrap (lv (j + 1) - min (min (max (max ((F j).lo + S (F j).p i) (F j).lo) (IntKind.i64.wrap (lv (j + 1) - s.C))) (F j).hi) (IntKind.i64.wrap (lv (j + 1) + s.D))) = lv (j + 1) - b := by
        rw [wA, wB, ← hbv]
        exact wr_id (by omega) (by omega)
      have e15 : IntKind.i64.wrap (((j + 1 : Nat) : Int) - 1 - 1) = (j : Int) - 1 := (wr_id (by omega) (by omega)).trans (by omega)
      refine ⟨(j, fun z => if z = j then b else lv z), [?_, ?_], ⟨by show j ≤ m; omega, (if_neg (by omega)).trans hlm, by show (F j).in (if j = j then b else lv j); rw [if_pos rfl]; exact hl.1, fun t h4 h5 => (lv_step hl hlast h4 h5)⟩, Nat.lt_succ_self j, ?_⟩
      rotate_left 2
      refine Sub.of ?_ ?_ ?_
      repeat' (first | (refine And.intro ?_ ?_) | exact trivial | exact fun _ _ _ => hsc _ _ | (exact congrArg intV (by first | with_reducible rfl | with_reducible assumption)) | exact (rfl : AV.idsLt _ _ = true) | exact (rfl : _ = AV.ren _ (.own _)) | exact (rfl : _ = AV.ren _ (.fn _ _)) | exact (rfl : _ = AV.ren _ (.gh _)) | (exact congrArg intV (by assumption)) | (refine congrArg intV ((wr_id (by omega) (by omega)).trans (by omega))) | exact rfl | (simp only [Int.toNat_natCast, Int.toNat_zero, Nat.sub_zero, Nat.zero_add]; first | exact rfl | done) | exact all0 | exact fun h => Bool.noConfusion h | exact fun _ _ _ _ => rfl | omega)
      intro a ha b9 hb9
      match b9, hb9 with
      | 0, _ =>
        by_cases e : a = j
        · refine (if_pos (e.trans ek.symm)).trans ((if_pos ⟨Nat.zero_le _, Nat.zero_lt_one⟩).trans (congrArg iL ?_))
          show IntKind.i64.wrap (lv (j + 1) - min (min (max (max ((F j).lo + S (F j).p i) (F j).lo) (IntKind.i64.wrap (lv (j + 1) - s.C))) (F j).hi) (IntKind.i64.wrap (lv (j + 1) + s.D))) = if j ≤ a then (if a + 1 = j then b else lv (a + 1)) - (if a = j then b else lv a) else 0
          rw [wO, if_pos (by omega), if_neg (by omega), if_pos e, e]
        · refine (if_neg (by omega)).trans (congrArg iL ?_)
          show (if j + 1 ≤ a then lv (a + 1) - lv a else 0) = if j ≤ a then (if a + 1 = j then b else lv (a + 1)) - (if a = j then b else lv a) else 0
          by_cases e2 : j + 1 ≤ a
          · rw [if_pos e2, if_pos (by omega), if_neg (by omega), if_neg e]
          · rw [if_neg e2, if_neg (by omega)]
end Go.Proofs.Ytnkgoidhejeacaa
